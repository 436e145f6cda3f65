/- The plain law: rational numbers, the program's. -/
import Derived.Test.YtiacmfebhoodnaaMaO
namespace Go.FK

theorem lim_one : lim 1 = [1] := by rw [lim_single (by omega) (by omega)]; rfl
theorem int_zero : int 0 = (false, []) := by simp [int, lim_zero]
theorem rat_zero : rat 0 = ((false, []), [1]) := by
  unfold rat
  show (int 0, lim 1) = _
  rw [int_zero, lim_one]
theorem rat_mkRat (z : Int) {d : Nat} (hd : d ≠ 0) : rat (mkRat z d) = (int (z / (Nat.gcd z.natAbs d : Nat)), lim (d / Nat.gcd z.natAbs d)) := by
  unfold rat
  rw [Rat.num_mkRat, Rat.den_mkRat, if_neg hd, if_neg hd, Nat.gcd_comm]

theorem made_ev {M : Nat} {a : Bool × List Int} {b : List Int} {z : Int} {d : Nat} (ha : Zt M a z) (hb : Nt M b d) (hd : d ≠ 0) (hM : M ≤ 17592186044415) : Ev (fun k => ratio_made.f k a b) (rat (mkRat z d)) := by
  rw [rat_mkRat z hd]
  unfold ratio_made.f ratio_made.e
  have hg0 : Nat.gcd z.natAbs d ≠ 0 := fun h => hd (Nat.eq_zero_of_gcd_eq_zero_right h)
  have la := ha.nt.L
  have lb := hb.L
  have hgL : L (Nat.gcd z.natAbs d) ≤ M := Nat.le_trans (L_mono (Nat.gcd_le_right _ (by omega))) lb
  have hg := ha.nt.gcd hb hM
  have hdv := Nat.gcd_dvd_left z.natAbs d
  generalize Nat.gcd z.natAbs d = g at *
  have ng : Nt M (lim g) g := Nt.of hgL
  refine Ev.bind hg (Ev.bind (ha.nt.div ng hM hg0) (Ev.bind (hb.div ng hM hg0) ?_))
  obtain ⟨c, hc⟩ := hdv
  have hq : z.natAbs / g = c := by rw [hc, Nat.mul_div_cancel_left _ (by omega)]
  have hv := ha.val
  have hp := V_nonneg ha.lim
  have hZ : Zt M (a.1, lim (z.natAbs / g)) (z / (g : Nat)) := by
    refine ⟨Lim_lim _, ?_, Nat.le_trans (L_div _ _) la⟩
    unfold Zv at hv ⊢
    simp only [V_lim]
    rw [hq]
    have hV : V a.2 = (z.natAbs : Int) := by split at hv <;> omega
    split
    · rename_i h
      rw [if_pos h, hV, hc, Int.natCast_mul] at hv
      rw [← hv, ← Int.mul_neg, Int.mul_ediv_cancel_left _ (by omega)]
    · rename_i h
      rw [if_neg h, hV, hc, Int.natCast_mul] at hv
      rw [← hv, Int.mul_ediv_cancel_left _ (by omega)]
  exact Ev.bind (hZ.norm hM) Ev.pure

abbrev RR := (Bool × List Int) × List Int

theorem Rt.norm {M : Nat} {r : RR} {q : Rat} (h : Rt M r q) (hM : M ≤ 17592186044415) : Ev (fun k => ratio_Norm.f k r) (rat q) := by
  unfold ratio_Norm.f ratio_Norm.e
  obtain ⟨b, hb, hb2, hev⟩ := h.nt.bits (by omega)
  refine Ev.bind hev ?_
  rw [← h.val]
  unfold Qv
  by_cases h0 : (V r.2).toNat = 0
  · have := hb.zero h0
    refine Ev.tru (dec_t (by omega)) ?_
    rw [h0, Rat.mkRat_zero, rat_zero]
    exact Ev.pure
  · have := hb.low h0
    refine Ev.fls (dec_f (by omega)) ?_
    exact Ev.bind (made_ev h.zt h.nt h0 hM) Ev.pure

theorem divInt_cases (y z : Int) : (z < 0 → Rat.divInt y z = mkRat (-y) z.natAbs) ∧ (0 ≤ z → Rat.divInt y z = mkRat y z.natAbs) := by
  constructor
  · intro h
    obtain ⟨n, rfl⟩ : ∃ n : Nat, z = -(n : Int) := ⟨z.natAbs, by omega⟩
    rw [Rat.divInt_neg', Rat.divInt_ofNat]
    simp
  · intro h
    obtain ⟨n, rfl⟩ : ∃ n : Nat, z = (n : Int) := ⟨z.natAbs, by omega⟩
    rw [Rat.divInt_ofNat]
    simp

def noRat : RR := ((false, []), [])

theorem Zt.of_zero {M : Nat} {a b : Bool × List Int} {y : Int} (_ha : Zt M a y) (hb : Zt M b 0) (hM : M ≤ 8796093022207) : Ev (fun k => ratio_Of.f k a b) (noRat, (11 : Int)) := by
  unfold ratio_Of.f ratio_Of.e
  refine Ev.bind (hb.sign (by omega)) ?_
  exact Ev.tru (by simp) Ev.pure
theorem Zt.of_ev {M : Nat} {a b : Bool × List Int} {y z : Int} (ha : Zt M a y) (hb : Zt M b z) (hM : M ≤ 8796093022207) (hz : z ≠ 0) : Ev (fun k => ratio_Of.f k a b) (rat (Rat.divInt y z), (0 : Int)) := by
  unfold ratio_Of.f ratio_Of.e
  have hs := sign_neg_iff z
  have hc := divInt_cases y z
  refine Ev.bind (hb.sign (by omega)) ?_
  refine Ev.fls (dec_f (by rw [Int.sign_eq_zero_iff_zero]; exact hz)) (Ev.bind (hb.sign (by omega)) ?_)
  by_cases h : z < 0
  · refine Ev.tru (dec_t (hs.2 h)) (Ev.bind (ha.neg (by omega)) (Ev.turn (fun k => ratio_Of.p11_succ k _ _ _) ?_))
    unfold ratio_Of.e11
    have hn : Zt M (int (-y)) (-y) := Zt.of (by rw [LZ_neg]; exact ha.LZ)
    rw [hc.1 h]
    exact Ev.bind (made_ev hn hb.nt (by omega) (by omega)) Ev.pure
  · refine Ev.fls (dec_f (by rw [hs]; exact h)) (Ev.turn (fun k => ratio_Of.p11_succ k _ _ _) ?_)
    unfold ratio_Of.e11
    rw [hc.2 (by omega)]
    exact Ev.bind (made_ev ha hb.nt (by omega) (by omega)) Ev.pure

theorem Rt.num' {M : Nat} {q : Rat} (h : FK.LQ q ≤ M) : Zt M (int q.num) q.num := Zt.of (Nat.le_trans (LQ_num q) h)
theorem Rt.den' {M : Nat} {q : Rat} (h : FK.LQ q ≤ M) : Nt M (lim q.den) q.den := Nt.of (Nat.le_trans (LQ_den q) h)

theorem whole_Whole_ev {n : Int} (h : -9223372036854775808 ≤ n ∧ n ≤ 9223372036854775807) : Ev (fun k => ratio_Whole.f k n) (rat (n : Rat)) := by
  unfold ratio_Whole.f ratio_Whole.e
  refine Ev.bind (whole_Of_ev h) ?_
  have : rat (n : Rat) = (int n, [1]) := by
    unfold rat
    rw [Rat.num_intCast, Rat.den_intCast, lim_one]
  rw [this]
  exact Ev.pure

theorem Zt.rof {M : Nat} {a : Bool × List Int} {z : Int} (h : Zt M a z) (hM : M ≤ 17592186044415) : Ev (fun k => ratio_of.f k a) (rat (z : Rat)) := by
  unfold ratio_of.f ratio_of.e
  refine Ev.bind (h.norm hM) ?_
  have : rat (z : Rat) = (int z, [1]) := by
    unfold rat
    rw [Rat.num_intCast, Rat.den_intCast, lim_one]
  rw [this]
  exact Ev.pure

theorem Rt.inv {M : Nat} {r : RR} {q : Rat} (h : Rt M r q) (h1 : 1 ≤ M) (hM : M ≤ 4398046511103) (hq : q ≠ 0) : Ev (fun k => ratio_Inv.f k r) (rat q⁻¹, (0 : Int)) := by
  unfold ratio_Inv.f ratio_Inv.e
  have hL := h.LQ h1
  refine Ev.bind (h.norm (by omega)) ?_
  rw [Rat.inv_def]
  have hn : q.num ≠ 0 := fun h => hq (Rat.num_eq_zero.1 h)
  have := Zt.of_ev (Zt.pos (Rt.den' hL)) (Rt.num' hL) (by omega) hn
  exact Ev.bind this Ev.pure
theorem Rt.inv_zero {M : Nat} {r : RR} (h : Rt M r 0) (h1 : 1 ≤ M) (hM : M ≤ 4398046511103) : Ev (fun k => ratio_Inv.f k r) (noRat, (11 : Int)) := by
  unfold ratio_Inv.f ratio_Inv.e
  have hL := h.LQ h1
  refine Ev.bind (h.norm (by omega)) ?_
  have := Zt.of_zero (Zt.pos (Rt.den' hL)) (Rt.num' hL) (by omega)
  exact Ev.bind this Ev.pure

theorem Rt.mul {M : Nat} {r s : RR} {p q : Rat} (hr : Rt M r p) (hs : Rt M s q) (h1 : 1 ≤ M) (hM : M ≤ 1099511627775) : Ev (fun k => ratio_Mul.f k r s) (rat (p * q)) := by
  unfold ratio_Mul.f ratio_Mul.e
  have lr := hr.LQ h1
  have ls := hs.LQ h1
  refine Ev.bind (hr.norm (by omega)) (Ev.bind (hs.norm (by omega)) ?_)
  refine Ev.bind ((Rt.num' lr).mul (Rt.num' ls) (by omega)) (Ev.bind ((Rt.den' lr).mul (Rt.den' ls) (by omega)) ?_)
  rw [Rat.mul_def']
  have a1 := LZ_mul p.num q.num
  have a2 := L_mul p.den q.den
  have a3 := LQ_num p; have a4 := LQ_num q; have a5 := LQ_den p; have a6 := LQ_den q
  have hz : Zt (4 * M) (int (p.num * q.num)) (p.num * q.num) := Zt.of (by omega)
  have hn : Nt (4 * M) (lim (p.den * q.den)) (p.den * q.den) := Nt.of (by omega)
  exact Ev.bind (made_ev hz hn (Nat.mul_ne_zero p.den_nz q.den_nz) (by omega)) Ev.pure

theorem Rt.div {M : Nat} {r s : RR} {p q : Rat} (hr : Rt M r p) (hs : Rt M s q) (h1 : 1 ≤ M) (hM : M ≤ 274877906943) (hq : q ≠ 0) : Ev (fun k => ratio_Div.f k r s) (rat (p * q⁻¹), (0 : Int)) := by
  unfold ratio_Div.f ratio_Div.e
  refine Ev.bind (hs.inv h1 (by omega) hq) (Ev.fls (by simp) ?_)
  have hi : Rt (3 * M) (rat q⁻¹) q⁻¹ := Rt.of (by have := LQ_inv q; have := hs.LQ h1; omega)
  exact Ev.bind ((hr.mono (by omega)).mul hi (by omega) (by omega)) Ev.pure
theorem Rt.div_zero {M : Nat} {r s : RR} {p : Rat} (_hr : Rt M r p) (hs : Rt M s 0) (h1 : 1 ≤ M) (hM : M ≤ 274877906943) : Ev (fun k => ratio_Div.f k r s) (noRat, (11 : Int)) := by
  unfold ratio_Div.f ratio_Div.e
  exact Ev.bind (hs.inv_zero h1 (by omega)) (Ev.tru (by simp) Ev.pure)

/-- The order of two. -/
def qs (p q : Rat) : Int := (p.num * q.den - q.num * p.den).sign

theorem qs_neg {p q : Rat} : qs p q < 0 ↔ p < q := by
  unfold qs
  rw [sign_neg_iff, Rat.lt_iff]; omega
theorem qs_zero {p q : Rat} : qs p q = 0 ↔ p = q := by
  unfold qs
  rw [Int.sign_eq_zero_iff_zero, Rat.eq_iff_mul_eq_mul]; omega
theorem qs_cases (p q : Rat) : qs p q = -1 ∨ qs p q = 0 ∨ qs p q = 1 := sign_cases _
theorem qs_lt {p q : Rat} (h : p < q) : qs p q = -1 := by have := qs_neg.2 h; have := qs_cases p q; omega
theorem qs_eq {p q : Rat} (h : p = q) : qs p q = 0 := qs_zero.2 h
theorem qs_gt {p q : Rat} (h : q < p) : qs p q = 1 := by
  rcases qs_cases p q with h1 | h1 | h1
  · exact absurd (qs_neg.1 (by omega)) (Rat.not_lt.2 (Rat.le_of_lt h))
  · rw [qs_zero.1 h1] at h; exact absurd h Rat.lt_irrefl
  · exact h1

theorem Rt.cmp {M : Nat} {r s : RR} {p q : Rat} (hr : Rt M r p) (hs : Rt M s q) (h1 : 1 ≤ M) (hM : M ≤ 1099511627775) : Ev (fun k => ratio_Cmp.f k r s) (qs p q) := by
  unfold ratio_Cmp.f ratio_Cmp.e
  have lr := hr.LQ h1
  have ls := hs.LQ h1
  refine Ev.bind (hr.norm (by omega)) (Ev.bind (hs.norm (by omega)) ?_)
  refine Ev.bind ((Rt.num' lr).mul (Zt.pos (Rt.den' ls)) (by omega)) (Ev.bind ((Rt.num' ls).mul (Zt.pos (Rt.den' lr)) (by omega)) ?_)
  have a1 := LZ_mul p.num q.den
  have a2 := LZ_mul q.num p.den
  have a3 := LQ_num p; have a4 := LQ_num q; have a5 := LQ_den p; have a6 := LQ_den q
  rw [LZ_nat] at a1 a2
  have hz : Zt (4 * M) (int (p.num * q.den)) (p.num * q.den) := Zt.of (by omega)
  have hy : Zt (4 * M) (int (q.num * p.den)) (q.num * p.den) := Zt.of (by omega)
  exact Ev.bind (hz.cmp hy (by omega)) Ev.pure

theorem Rt.sign {M : Nat} {r : RR} {p : Rat} (hr : Rt M r p) (h1 : 1 ≤ M) (hM : M ≤ 1099511627775) : Ev (fun k => ratio_Sign.f k r) p.num.sign := by
  unfold ratio_Sign.f ratio_Sign.e
  exact Ev.bind (hr.norm (by omega)) (Ev.bind ((Rt.num' (hr.LQ h1)).sign (by omega)) Ev.pure)

theorem Rt.neg {M : Nat} {r : RR} {p : Rat} (hr : Rt M r p) (h1 : 1 ≤ M) (hM : M ≤ 1099511627775) : Ev (fun k => ratio_Neg.f k r) (rat (-p)) := by
  unfold ratio_Neg.f ratio_Neg.e
  exact Ev.bind (hr.norm (by omega)) (Ev.bind ((Rt.num' (hr.LQ h1)).neg (by omega)) Ev.pure)

theorem num_sign_neg (p : Rat) : p.num.sign < 0 ↔ p < 0 := by
  rw [sign_neg_iff, ← Rat.not_le, ← Rat.num_nonneg]; omega

theorem Rt.abs {M : Nat} {r : RR} {p : Rat} (hr : Rt M r p) (h1 : 1 ≤ M) (hM : M ≤ 1099511627775) : Ev (fun k => ratio_Abs.f k r) (rat p.abs) := by
  unfold ratio_Abs.f ratio_Abs.e
  refine Ev.bind (hr.sign h1 hM) ?_
  by_cases h : p < 0
  · refine Ev.tru (dec_t ((num_sign_neg p).2 h)) ?_
    rw [Rat.abs_of_nonpos (Rat.le_of_lt h)]
    exact Ev.bind (hr.neg h1 hM) Ev.pure
  · refine Ev.fls (dec_f (by rw [num_sign_neg]; exact h)) ?_
    rw [Rat.abs_of_nonneg (Rat.not_lt.1 h)]
    exact Ev.bind (hr.norm (by omega)) Ev.pure

theorem Rt.add {M : Nat} {r s : RR} {p q : Rat} (hr : Rt M r p) (hs : Rt M s q) (h1 : 1 ≤ M) (hM : M ≤ 1099511627775) : Ev (fun k => ratio_Add.f k r s) (rat (p + q)) := by
  unfold ratio_Add.f ratio_Add.e
  have lr := hr.LQ h1
  have ls := hs.LQ h1
  refine Ev.bind (hr.norm (by omega)) (Ev.bind (hs.norm (by omega)) ?_)
  refine Ev.bind ((Rt.num' lr).mul (Zt.pos (Rt.den' ls)) (by omega)) (Ev.bind ((Rt.num' ls).mul (Zt.pos (Rt.den' lr)) (by omega)) ?_)
  have a1 := LZ_mul p.num q.den
  have a2 := LZ_mul q.num p.den
  have a7 := LZ_add (p.num * q.den) (q.num * p.den)
  have a8 := L_mul p.den q.den
  have a3 := LQ_num p; have a4 := LQ_num q; have a5 := LQ_den p; have a6 := LQ_den q
  rw [LZ_nat] at a1 a2
  have hz : Zt (4 * M) (int (p.num * q.den)) (p.num * q.den) := Zt.of (by omega)
  have hy : Zt (4 * M) (int (q.num * p.den)) (q.num * p.den) := Zt.of (by omega)
  have hn : Nt (5 * M) (lim (p.den * q.den)) (p.den * q.den) := Nt.of (by omega)
  have hw : Zt (5 * M) (int (p.num * q.den + q.num * p.den)) (p.num * q.den + q.num * p.den) := Zt.of (by omega)
  rw [Rat.add_def']
  exact Ev.bind (hz.add hy (by omega)) (Ev.bind ((Rt.den' lr).mul (Rt.den' ls) (by omega)) (Ev.bind (made_ev hw hn (Nat.mul_ne_zero p.den_nz q.den_nz) (by omega)) Ev.pure))

theorem Rt.sub {M : Nat} {r s : RR} {p q : Rat} (hr : Rt M r p) (hs : Rt M s q) (h1 : 1 ≤ M) (hM : M ≤ 274877906943) : Ev (fun k => ratio_Sub.f k r s) (rat (p - q)) := by
  unfold ratio_Sub.f ratio_Sub.e
  have hn : Rt (2 * M) (rat (-q)) (-q) := Rt.of (by rw [LQ_neg]; exact hs.LQ h1)
  rw [Rat.sub_eq_add_neg]
  exact Ev.bind (hs.neg h1 (by omega)) (Ev.bind ((hr.mono (by omega)).add hn (by omega) (by omega)) Ev.pure)

end Go.FK
