/- The plain law: Div, Gcd; whole numbers. -/
import Derived.Test.YtiacmfebhoodnaaMaN
namespace Go.FK

theorem lim_single {x : Nat} (h0 : x ≠ 0) (h : x < 4294967296) : lim x = [(x : Int)] := by
  rw [lim_pos h0, Nat.mod_eq_of_lt h, Nat.div_eq_of_lt h, lim_zero]
theorem Nt.one {x : Int} (h : 0 ≤ x ∧ x < B) : Nt 1 [x] x.toNat := ⟨Lim.mk h Lim.nil, by simp [V]; omega, by simp⟩

theorem Nt.div_zero {M m : Nat} {a b : List Int} (ha : Nt M a m) (hb : Nt M b 0) (hM : M ≤ 17592186044415) : Ev (fun k => nat_Div.f k a b) ([], [], (11 : Int)) := by
  unfold nat_Div.f nat_Div.e
  refine Ev.bind (ha.trim (by omega)) (Ev.bind (hb.trim (by omega)) ?_)
  rw [lim_zero]
  exact Ev.tru (by simp) Ev.pure

theorem Nt.div {M m n : Nat} {a b : List Int} (ha : Nt M a m) (hb : Nt M b n) (hM : M ≤ 17592186044415) (hn : n ≠ 0) : Ev (fun k => nat_Div.f k a b) (FK.lim (m / n), FK.lim (m % n), (0 : Int)) := by
  have lm := ha.L
  have ln := hb.L
  have hn1 := L_pos hn
  unfold nat_Div.f nat_Div.e
  refine Ev.bind (ha.trim (by omega)) (Ev.bind (hb.trim (by omega)) ?_)
  have am : Nt M (FK.lim m) m := Nt.of lm
  have bn : Nt M (FK.lim n) n := Nt.of ln
  refine Ev.fls (dec_f (by unfold FK.L at hn1; omega)) (Ev.bind (am.cmp bn (by omega)) ?_)
  by_cases hlt : m < n
  · rw [sgn_lt (by omega)]
    refine Ev.tru (by simp) (Ev.bind (am.own (by omega)) ?_)
    rw [Nat.div_eq_of_lt hlt, Nat.mod_eq_of_lt hlt, lim_zero]
    exact Ev.pure
  · have hsg : ¬ sgn (m : Int) n < 0 := by
      unfold sgn
      by_cases h1 : (m : Int) = n
      · rw [if_neg (by omega), if_pos h1]; omega
      · rw [if_neg (by omega), if_neg h1]; omega
    refine Ev.fls (dec_f hsg) ?_
    by_cases h1 : FK.L n = 1
    · refine Ev.tru (dec_t (by unfold FK.L at h1; omega)) (Ev.tru (dec_t (by unfold FK.L at h1; omega)) ?_)
      have hnB : n < 4294967296 := by have := L_lt n; rw [h1] at this; omega
      have e : nthD 0 (FK.lim n) 0 = (n : Int) := by rw [lim_single hn hnB]; rfl
      rw [e]
      obtain ⟨q, hq1, hq2⟩ := am.short (b := n) (by omega) (by omega) (by simp only [B]; omega)
      have hmod := Nat.mod_lt m (show 0 < n by omega)
      refine Ev.bind hq1 (Ev.bind (hq2.own (by omega)) ?_)
      have o := Nt.one (x := ((m % n : Nat) : Int)) (by simp only [B]; omega)
      have := o.own (by omega)
      simp only [Int.toNat_natCast] at this
      exact Ev.bind this Ev.pure
    · refine Ev.fls (dec_f (by unfold FK.L at h1; omega)) ?_
      have hl : FK.L n ≤ FK.L m := L_mono (by omega)
      exact Ev.bind (long_ev (by omega) hl (by omega)) Ev.pure

theorem Gcd_p0 (M : Nat) (hM : M ≤ 17592186044415) : ∀ (n m : Nat), L m ≤ M → L n ≤ M → Ev (fun k => nat_Gcd.p0 k (lim m) (lim n)) (lim (Nat.gcd m n)) := by
  intro n
  induction n using Nat.strongRecOn with
  | _ n ih =>
    intro m hm hn
    refine Ev.turn (fun k => nat_Gcd.p0_succ k _ _) ?_
    unfold nat_Gcd.e0
    by_cases h : n = 0
    · subst h
      rw [lim_zero]
      refine Ev.fls (by simp) ?_
      rw [Nat.gcd_zero_right]
      exact Ev.pure
    · have := L_pos h
      refine Ev.tru (dec_t (by unfold FK.L at this; omega)) ?_
      refine Ev.bind (Nt.div (Nt.of hm) (Nt.of hn) (by omega) h) ?_
      have hlt := Nat.mod_lt m (show 0 < n by omega)
      have := ih (m % n) hlt n hn (Nat.le_trans (L_mono (Nat.le_of_lt hlt)) hn)
      rw [Nat.gcd_comm n (m % n), ← Nat.gcd_rec, Nat.gcd_comm] at this
      exact this

theorem Nt.gcd {M m n : Nat} {a b : List Int} (ha : Nt M a m) (hb : Nt M b n) (hM : M ≤ 17592186044415) : Ev (fun k => nat_Gcd.f k a b) (FK.lim (Nat.gcd m n)) := by
  unfold nat_Gcd.f nat_Gcd.e
  exact Ev.bind (ha.own (by omega)) (Ev.bind (hb.own (by omega)) (Gcd_p0 M hM n m ha.L hb.L))

theorem Nt.Norm {M m : Nat} {a : List Int} (ha : Nt M a m) (hM : M ≤ 17592186044415) : Ev (fun k => nat_Norm.f k a) (FK.lim m) := Ev.bind (ha.own (by omega)) Ev.pure

theorem nat_Of_ev {n : Int} (h : 0 ≤ n ∧ n < 18446744073709551616) : Ev (fun k => nat_Of.f k n) (lim n.toNat) := by
  unfold nat_Of.f nat_Of.e
  have e1 : IntKind.u32.wrap n = n % 4294967296 := wrap_u32 n
  have e2 : IntKind.u32.wrap (Int.fdiv n (2 ^ 32)) = n / 4294967296 := by
    rw [Int.fdiv_eq_ediv_of_nonneg _ (by omega), wrap_u32]; omega
  rw [e1, e2]
  have o : Nt 2 [n % 4294967296, n / 4294967296] n.toNat := ⟨Lim.mk (by simp only [B]; omega) (Lim.mk (by simp only [B]; omega) Lim.nil), by simp only [V, B]; omega, by simp⟩
  exact Ev.bind (o.own (by omega)) Ev.pure

/-! ### Whole numbers -/
theorem core_p9 (a : List Int) (n : Nat) (h : n ≤ a.length) : Ev (fun k => whole_core.p9 k a (n : Int)) (a.take n) := by
  refine Ev.turn (fun k => whole_core.p9_succ k a n) ?_
  unfold whole_core.e9
  refine Ev.tru (by simp; omega) ?_
  have : (List.take (Int.toNat (n : Int)) a).drop (Int.toNat 0) = a.take n := by simp
  rw [this]
  exact Ev.pure
theorem core_p0 (a : List Int) : ∀ (n : Nat), n ≤ a.length → n ≤ 9223372036854775807 → Ev (fun k => whole_core.p0 k a (n : Int)) (norm (a.take n)) := by
  intro n
  induction n with
  | zero =>
    intro h _
    refine Ev.turn (fun k => whole_core.p0_succ k a _) ?_
    unfold whole_core.e0
    refine Ev.fls (by simp) ?_
    simpa [norm] using core_p9 a 0 h
  | succ n ih =>
    intro h hb
    refine Ev.turn (fun k => whole_core.p0_succ k a _) ?_
    unfold whole_core.e0
    have e : IntKind.i64.wrap (((n + 1 : Nat) : Int) - 1) = (n : Int) := by rw [wrap_i64 (by omega) (by omega)]; omega
    simp only [e]
    refine Ev.tru (by simp) ?_
    refine Ev.tru (by simp; omega) ?_
    rw [take_succ_get (by omega)]
    by_cases h0 : nthD 0 a n = 0
    · refine Ev.tru (by simp [h0]) ?_
      rw [h0, norm_snoc_zero]
      exact ih (by omega) (by omega)
    · refine Ev.fls (by simp [h0]) ?_
      rw [norm_snoc_ne _ h0, ← take_succ_get (by omega)]
      exact core_p9 a (n + 1) h
theorem Nt.core {M n : Nat} {a : List Int} (h : Nt M a n) (hM : M ≤ 17592186044415) : Ev (fun k => whole_core.f k a) (FK.lim n) := by
  have := core_p0 a a.length (Nat.le_refl _) (by have := h.len; omega)
  rw [List.take_length, h.norm] at this
  exact this

theorem lim_nil_iff (n : Nat) : lim n = [] ↔ n = 0 := by
  constructor
  · intro h
    apply L_eq_zero
    unfold L
    rw [h]; rfl
  · intro h
    rw [h, lim_zero]

theorem Zt.sign {M : Nat} {a : Bool × List Int} {z : Int} (h : Zt M a z) (hM : M ≤ 17592186044415) : Ev (fun k => whole_Sign.f k a) z.sign := by
  unfold whole_Sign.f whole_Sign.e
  refine Ev.bind (h.nt.core hM) ?_
  by_cases h0 : z = 0
  · subst h0
    simp only [Int.natAbs_zero, lim_zero]
    exact Ev.tru (by simp) Ev.pure
  · refine Ev.fls (dec_f (by have := L_pos (n := z.natAbs) (by omega); unfold FK.L at this; omega)) ?_
    have hv := h.val
    have hp := V_nonneg h.lim
    unfold Zv at hv
    by_cases hs : a.1 = true
    · refine Ev.tru hs ?_
      rw [if_pos hs] at hv
      rw [Int.sign_eq_neg_one_of_neg (by omega)]
      exact Ev.pure
    · rw [if_neg hs] at hv
      refine Ev.fls (by simpa using hs) ?_
      rw [Int.sign_eq_one_of_pos (by omega)]
      exact Ev.pure

theorem sign_cases (z : Int) : z.sign = -1 ∨ z.sign = 0 ∨ z.sign = 1 := by
  rcases Int.lt_trichotomy z 0 with h | h | h
  · exact Or.inl (Int.sign_eq_neg_one_of_neg h)
  · exact Or.inr (Or.inl (by rw [h]; rfl))
  · exact Or.inr (Or.inr (Int.sign_eq_one_of_pos h))

/-- The product of some signs. -/
def prodL : List Int → Int
  | [] => 1
  | x :: xs => x * prodL xs

theorem signed_p0 (n : Nat) (l : List Int) (hl : l.length ≤ 1000) (hs : ∀ x ∈ l, x = -1 ∨ x = 0 ∨ x = 1) (w : Bool × List Int) : ∀ (m i : Nat) (s : Int), m + i = l.length → (s = -1 ∨ s = 0 ∨ s = 1) →
    Ev (fun k => whole_signed.p0 k w (lim n) s l (l.length : Int) (i : Int)) (decide (s * prodL (l.drop i) < 0 ∧ n ≠ 0), lim n) := by
  intro m
  induction m with
  | zero =>
    intro i s hi h1
    have hi : i = l.length := by omega
    subst hi
    rw [List.drop_of_length_le (Nat.le_refl _)]
    simp only [prodL, Int.mul_one]
    refine Ev.turn (fun k => whole_signed.p0_succ k _ _ _ _ _ _) ?_
    unfold whole_signed.e0
    refine Ev.fls (by simp) ?_
    by_cases h2 : s < 0
    · refine Ev.tru (dec_t h2) ?_
      have : decide (((lim n).length : Int) > 0) = decide (s < 0 ∧ n ≠ 0) := by
        by_cases h3 : n = 0
        · subst h3; simp [lim_zero]
        · have := L_pos h3
          unfold L at this
          rw [dec_t (by omega), dec_t ⟨h2, h3⟩]
      rw [this]
      exact Ev.pure
    · refine Ev.fls (dec_f h2) ?_
      rw [dec_f (fun h => h2 h.1)]
      exact Ev.pure
  | succ m ih =>
    intro i s hi h1
    refine Ev.turn (fun k => whole_signed.p0_succ k _ _ _ _ _ _) ?_
    unfold whole_signed.e0
    have e1 : IntKind.i64.wrap ((i : Int) + 1) = ((i + 1 : Nat) : Int) := by rw [wrap_i64 (by omega) (by omega)]; omega
    have hd : l.drop i = nthD 0 l i :: l.drop (i + 1) := by
      rw [List.drop_eq_getElem_cons (by omega), nthD_eq, List.getD_eq_getElem?_getD]
      simp [show i < l.length by omega]
    have hx : nthD 0 l i = -1 ∨ nthD 0 l i = 0 ∨ nthD 0 l i = 1 := hs _ (List.mem_of_mem_drop (by rw [hd]; exact List.mem_cons_self))
    have hy : s * nthD 0 l i = -1 ∨ s * nthD 0 l i = 0 ∨ s * nthD 0 l i = 1 := by
      rcases h1 with rfl | rfl | rfl <;> rcases hx with h | h | h <;> rw [h] <;> decide
    have e2 : IntKind.i64.wrap (s * nthD 0 l i) = s * nthD 0 l i := wrap_i64 (by omega) (by omega)
    simp only [Int.toNat_natCast, e1, e2]
    simp (disch := omega) only [dec_t, dec_f, cond_true, cond_false, Bool.and_true]
    have := ih (i + 1) (s * nthD 0 l i) (by omega) hy
    simp only [hd, prodL, ← Int.mul_assoc]
    exact this

theorem Nt.signed {M n : Nat} {a : List Int} (h : Nt M a n) (hM : M ≤ 17592186044415) (l : List Int) (hl : l.length ≤ 1000) (hs : ∀ x ∈ l, x = -1 ∨ x = 0 ∨ x = 1) : Ev (fun k => whole_signed.f k a l) (decide (prodL l < 0 ∧ n ≠ 0), FK.lim n) := by
  unfold whole_signed.f whole_signed.e
  refine Ev.bind (h.Norm hM) ?_
  have := signed_p0 n l hl hs (false, []) l.length 0 1 (by omega) (by omega)
  simp only [List.drop_zero, Int.one_mul] at this
  exact this

/-- A size with a sign. -/
theorem Nt.signed1 {M n : Nat} {a : List Int} (h : Nt M a n) (hM : M ≤ 17592186044415) {s z : Int} (hs : s = -1 ∨ s = 0 ∨ s = 1) (hn : n = z.natAbs) (hz : z < 0 ↔ (s < 0 ∧ n ≠ 0)) : Ev (fun k => whole_signed.f k a [s]) (int z) := by
  have := h.signed hM [s] (by simp) (by simpa using hs)
  simp only [prodL, Int.mul_one] at this
  rw [← decide_eq_decide.2 hz, hn] at this
  exact this
theorem Nt.signed2 {M n : Nat} {a : List Int} (h : Nt M a n) (hM : M ≤ 17592186044415) {s t z : Int} (hs : s = -1 ∨ s = 0 ∨ s = 1) (ht : t = -1 ∨ t = 0 ∨ t = 1) (hn : n = z.natAbs) (hz : z < 0 ↔ (s * t < 0 ∧ n ≠ 0)) : Ev (fun k => whole_signed.f k a [s, t]) (int z) := by
  have := h.signed hM [s, t] (by simp) (by
    intro x hx
    simp only [List.mem_cons, List.not_mem_nil, or_false] at hx
    rcases hx with rfl | rfl
    · exact hs
    · exact ht)
  simp only [prodL, Int.mul_one] at this
  rw [← decide_eq_decide.2 hz, hn] at this
  exact this

theorem sign_neg_iff (z : Int) : z.sign < 0 ↔ z < 0 := by
  rcases Int.lt_trichotomy z 0 with h | h | h
  · rw [Int.sign_eq_neg_one_of_neg h]; omega
  · rw [h]; decide
  · rw [Int.sign_eq_one_of_pos h]; omega

theorem Zt.norm {M : Nat} {a : Bool × List Int} {z : Int} (h : Zt M a z) (hM : M ≤ 17592186044415) : Ev (fun k => whole_Norm.f k a) (int z) := by
  unfold whole_Norm.f whole_Norm.e
  exact Ev.bind (h.sign hM) (Ev.bind (h.nt.signed1 hM (sign_cases z) rfl (by rw [sign_neg_iff]; omega)) Ev.pure)

theorem Zt.neg {M : Nat} {a : Bool × List Int} {z : Int} (h : Zt M a z) (hM : M ≤ 17592186044415) : Ev (fun k => whole_Neg.f k a) (int (-z)) := by
  unfold whole_Neg.f whole_Neg.e
  refine Ev.bind (h.sign hM) (Ev.bind (h.nt.signed2 hM (by omega) (sign_cases z) (by omega) ?_) Ev.pure)
  have := sign_neg_iff (-z)
  rw [Int.sign_neg] at this
  have e : (-1 : Int) * z.sign = -z.sign := by omega
  rw [e, this]
  omega

theorem Zt.mul {M : Nat} {a b : Bool × List Int} {y z : Int} (ha : Zt M a y) (hb : Zt M b z) (hM : M ≤ 8796093022207) : Ev (fun k => whole_Mul.f k a b) (int (y * z)) := by
  unfold whole_Mul.f whole_Mul.e
  have hm := ha.nt.mul hb.nt (by omega)
  have hL := L_mul y.natAbs z.natAbs
  have la := ha.nt.L
  have lb := hb.nt.L
  have n1 : Nt (2 * M) (FK.lim (y.natAbs * z.natAbs)) (y.natAbs * z.natAbs) := Nt.of (by omega)
  refine Ev.bind hm (Ev.bind (ha.sign (by omega)) (Ev.bind (hb.sign (by omega)) (Ev.bind (n1.signed2 (by omega) (sign_cases y) (sign_cases z) (by rw [Int.natAbs_mul]) ?_) Ev.pure)))
  rw [← Int.sign_mul, sign_neg_iff, ← Int.natAbs_mul]
  omega

theorem or_signs {x y : Int} (hx : x = -1 ∨ x = 0 ∨ x = 1) (hy : y = -1 ∨ y = 0 ∨ y = 1) (h : 0 ≤ x * y) : bitsI .or .i64 (bitsI .or .i64 x y) 1 = if x < 0 ∨ y < 0 then -1 else 1 := by
  rcases hx with rfl | rfl | rfl <;> rcases hy with rfl | rfl | rfl <;> first | (exfalso; revert h; decide) | decide

theorem Zt.add {M : Nat} {a b : Bool × List Int} {y z : Int} (ha : Zt M a y) (hb : Zt M b z) (hM : M ≤ 8796093022207) : Ev (fun k => whole_Add.f k a b) (int (y + z)) := by
  unfold whole_Add.f whole_Add.e
  have la := ha.nt.L
  have lb := hb.nt.L
  have hsy := sign_cases y
  have hsz := sign_cases z
  have hny := sign_neg_iff y
  have hnz := sign_neg_iff z
  have hzy := Int.sign_eq_zero_iff_zero (a := y)
  have hzz := Int.sign_eq_zero_iff_zero (a := z)
  refine Ev.bind (ha.sign (by omega)) (Ev.bind (hb.sign (by omega)) ?_)
  have e1 : IntKind.i64.wrap (y.sign * z.sign) = y.sign * z.sign := by
    have : y.sign * z.sign = -1 ∨ y.sign * z.sign = 0 ∨ y.sign * z.sign = 1 := by rw [← Int.sign_mul]; exact sign_cases _
    exact wrap_i64 (by omega) (by omega)
  rw [e1]
  by_cases hs : 0 ≤ y.sign * z.sign
  · refine Ev.tru (dec_t hs) (Ev.bind (ha.nt.add hb.nt (by omega)) ?_)
    have hL := L_add y.natAbs z.natAbs
    have n1 : Nt (M + 1) (FK.lim (y.natAbs + z.natAbs)) (y.natAbs + z.natAbs) := Nt.of (by omega)
    rw [or_signs hsy hsz hs]
    have hcase : (0 ≤ y ∧ 0 ≤ z) ∨ (y ≤ 0 ∧ z ≤ 0) := by
      rw [← Int.sign_mul] at hs
      have h2 := sign_neg_iff (y * z)
      have h3 : 0 ≤ y * z := by omega
      rcases Int.lt_trichotomy y 0 with h | h | h
      · right
        refine ⟨by omega, Int.not_lt.1 fun h4 => ?_⟩
        have := Int.mul_neg_of_neg_of_pos h h4
        omega
      · omega
      · left
        refine ⟨by omega, Int.not_lt.1 fun h4 => ?_⟩
        have := Int.mul_neg_of_pos_of_neg h h4
        omega
    refine Ev.bind (n1.signed1 (by omega) (by split <;> omega) (by omega) ?_) Ev.pure
    split <;> omega
  · refine Ev.fls (dec_f hs) (Ev.bind (ha.nt.cmp hb.nt (by omega)) ?_)
    have hcase : (y < 0 ∧ 0 < z) ∨ (0 < y ∧ z < 0) := by
      rcases hsy with h1 | h1 | h1 <;> rcases hsz with h2 | h2 | h2 <;> rw [h1, h2] at hs <;> first | (exfalso; revert hs; decide) | omega
    by_cases hge : z.natAbs ≤ y.natAbs
    · refine Ev.tru (dec_t ?_) ?_
      · unfold sgn
        by_cases h1 : ((y.natAbs : Nat) : Int) = (z.natAbs : Nat)
        · rw [if_neg (by omega), if_pos h1]; omega
        · rw [if_neg (by omega), if_neg h1]; omega
      refine Ev.bind (ha.nt.sub hb.nt (by omega) hge) ?_
      have n1 : Nt M (FK.lim (y.natAbs - z.natAbs)) (y.natAbs - z.natAbs) := Nt.of (Nat.le_trans (L_sub _ _) la)
      exact Ev.bind (n1.signed1 (by omega) hsy (by omega) (by rw [hny]; omega)) Ev.pure
    · refine Ev.fls (dec_f ?_) ?_
      · rw [sgn_lt (by omega)]; omega
      refine Ev.bind (hb.nt.sub ha.nt (by omega) (by omega)) ?_
      have n1 : Nt M (FK.lim (z.natAbs - y.natAbs)) (z.natAbs - y.natAbs) := Nt.of (Nat.le_trans (L_sub _ _) lb)
      exact Ev.bind (n1.signed1 (by omega) hsz (by omega) (by rw [hnz]; omega)) Ev.pure

theorem Zt.sub {M : Nat} {a b : Bool × List Int} {y z : Int} (ha : Zt M a y) (hb : Zt M b z) (hM : M ≤ 8796093022207) : Ev (fun k => whole_Sub.f k a b) (int (y - z)) := by
  unfold whole_Sub.f whole_Sub.e
  have h1 : Zt M (int (-z)) (-z) := Zt.of (by rw [LZ_neg]; exact hb.LZ)
  have := ha.add h1 hM
  rw [← Int.sub_eq_add_neg] at this
  exact Ev.bind (hb.neg (by omega)) (Ev.bind this Ev.pure)

theorem Zt.cmp {M : Nat} {a b : Bool × List Int} {y z : Int} (ha : Zt M a y) (hb : Zt M b z) (hM : M ≤ 8796093022207) : Ev (fun k => whole_Cmp.f k a b) (y - z).sign := by
  unfold whole_Cmp.f whole_Cmp.e
  have h1 : Zt (M + 1) (int (y - z)) (y - z) := Zt.of (by have := LZ_sub y z; have := ha.LZ; have := hb.LZ; omega)
  exact Ev.bind (ha.sub hb hM) (Ev.bind (h1.sign (by omega)) Ev.pure)

theorem whole_Of_ev {n : Int} (h : -9223372036854775808 ≤ n ∧ n ≤ 9223372036854775807) : Ev (fun k => whole_Of.f k n) (int n) := by
  unfold whole_Of.f whole_Of.e
  have hL : LZ n ≤ 2 := L_le (by omega)
  have n1 : Nt 2 (lim n.natAbs) n.natAbs := Nt.of hL
  by_cases h0 : n < 0
  · have e1 : IntKind.u64.wrap (0 - IntKind.u64.wrap n) = -n := by simp only [wrap_u64]; omega
    rw [e1]
    have e2 : (-n).toNat = n.natAbs := by omega
    have := nat_Of_ev (n := -n) (by omega)
    rw [e2] at this
    exact Ev.tru (dec_t h0) (Ev.bind this (Ev.bind (n1.signed1 (by omega) (by omega) rfl (by omega)) Ev.pure))
  · have e1 : IntKind.u64.wrap n = n := wrap_u64_id (by omega) (by omega)
    rw [e1]
    have e2 : n.toNat = n.natAbs := by omega
    have := nat_Of_ev (n := n) (by omega)
    rw [e2] at this
    have s := n1.signed (by omega) [] (by simp) (by simp)
    refine Ev.fls (dec_f h0) (Ev.bind this (Ev.bind s ?_))
    have e3 : decide (prodL [] < 0 ∧ n.natAbs ≠ 0) = decide (n < 0) := by rw [dec_f h0, dec_f (by simp [prodL])]
    rw [e3]
    exact Ev.pure

end Go.FK
