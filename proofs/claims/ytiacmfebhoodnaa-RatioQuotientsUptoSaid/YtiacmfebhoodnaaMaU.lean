/- The plain law: the reference's whole and rational numbers. -/
import Derived.Test.YtiacmfebhoodnaaMaT
namespace Go.FK

theorem r2made_ev {M n : Nat} {b : Bool} {a : List Int} (h : Nt M a n) (hM : M ≤ 17592186044415) {z : Int} (hz : z = if b then -(n : Int) else n) : Ev (fun k => ref02_made.f k b a) (int z) := by
  unfold ref02_made.f ref02_made.e
  refine Ev.bind (h.rNorm (by omega)) ?_
  have hn : z.natAbs = n := by rw [hz]; split <;> omega
  unfold int
  rw [hn]
  cases b with
  | true =>
    refine Ev.tru rfl ?_
    have : decide (((FK.lim n).length : Int) > 0) = decide (z < 0) := by
      apply decide_eq_decide.2
      simp only [if_true] at hz
      by_cases h0 : n = 0
      · subst h0; rw [lim_zero]; simp; omega
      · have := L_pos h0
        unfold FK.L at this
        omega
    rw [this]
    exact Ev.pure
  | false =>
    refine Ev.fls rfl ?_
    have : decide (z < 0) = false := dec_f (by rw [hz]; simp)
    rw [this]
    exact Ev.pure

theorem Zt.zv {M : Nat} {a : Bool × List Int} {z : Int} (h : Zt M a z) : z = if a.1 then -(z.natAbs : Int) else z.natAbs := by
  have h1 := h.val
  have h2 := V_nonneg h.lim
  unfold Zv at h1
  split at h1 <;> rename_i h3
  · rw [if_pos h3]; omega
  · rw [if_neg h3]; omega

theorem Zt.rnorm {M : Nat} {a : Bool × List Int} {z : Int} (h : Zt M a z) (hM : M ≤ 17592186044415) : Ev (fun k => ref02_Norm.f k a) (int z) := by
  unfold ref02_Norm.f ref02_Norm.e
  exact Ev.bind (r2made_ev h.nt hM h.zv) Ev.pure
theorem Zt.rneg {M : Nat} {a : Bool × List Int} {z : Int} (h : Zt M a z) (hM : M ≤ 17592186044415) : Ev (fun k => ref02_Neg.f k a) (int (-z)) := by
  unfold ref02_Neg.f ref02_Neg.e
  refine Ev.bind (r2made_ev h.nt hM ?_) Ev.pure
  have := h.zv
  cases h1 : a.1 <;> rw [h1] at this <;> simp at this ⊢ <;> omega
theorem Zt.rsign {M : Nat} {a : Bool × List Int} {z : Int} (h : Zt M a z) (hM : M ≤ 17592186044415) : Ev (fun k => ref02_Sign.f k a) z.sign := by
  unfold ref02_Sign.f ref02_Sign.e
  refine Ev.bind (h.rnorm hM) ?_
  unfold int
  by_cases h0 : z < 0
  · refine Ev.tru (by simp [h0]) ?_
    rw [Int.sign_eq_neg_one_of_neg h0]
    exact Ev.pure
  · refine Ev.fls (by simp; omega) ?_
    by_cases h1 : z = 0
    · subst h1
      simp only [Int.natAbs_zero, lim_zero]
      exact Ev.fls (by simp) Ev.pure
    · have := L_pos (n := z.natAbs) (by omega)
      unfold FK.L at this
      refine Ev.tru (dec_t (by simp only []; omega)) ?_
      rw [Int.sign_eq_one_of_pos (by omega)]
      exact Ev.pure

theorem Zt.rmul {M : Nat} {a b : Bool × List Int} {y z : Int} (ha : Zt M a y) (hb : Zt M b z) (hM : M ≤ 8796093022207) : Ev (fun k => ref02_Mul.f k a b) (int (y * z)) := by
  unfold ref02_Mul.f ref02_Mul.e
  have hm := ha.nt.rmul hb.nt (by omega)
  have hL := L_mul y.natAbs z.natAbs
  have la := ha.nt.L
  have lb := hb.nt.L
  have n1 : Nt (2 * M) (FK.lim (y.natAbs * z.natAbs)) (y.natAbs * z.natAbs) := Nt.of (by omega)
  refine Ev.bind hm (Ev.bind (r2made_ev n1 (by omega) ?_) Ev.pure)
  have h1 := ha.zv
  have h2 := hb.zv
  rw [Int.natCast_mul]
  generalize (y.natAbs : Int) = u at *
  generalize (z.natAbs : Int) = v at *
  cases h3 : a.1 <;> cases h4 : b.1 <;> simp only [h3, h4, if_true, Bool.false_eq_true, if_false] at h1 h2 ⊢ <;> rw [h1, h2] <;> simp [Int.neg_mul, Int.mul_neg]

theorem Zt.radd {M : Nat} {a b : Bool × List Int} {y z : Int} (ha : Zt M a y) (hb : Zt M b z) (hM : M ≤ 8796093022207) : Ev (fun k => ref02_Add.f k a b) (int (y + z)) := by
  unfold ref02_Add.f ref02_Add.e
  have la := ha.nt.L
  have lb := hb.nt.L
  have h1 := ha.zv
  have h2 := hb.zv
  by_cases hs : a.1 = b.1
  · have hL := L_add y.natAbs z.natAbs
    have n1 : Nt (M + 1) (FK.lim (y.natAbs + z.natAbs)) (y.natAbs + z.natAbs) := Nt.of (by omega)
    refine Ev.tru (by simp [hs]) (Ev.bind (ha.nt.radd hb.nt (by omega)) (Ev.bind (r2made_ev n1 (by omega) ?_) Ev.pure))
    rw [← hs] at h2
    cases h3 : a.1 <;> rw [h3] at h1 h2 <;> simp at h1 h2 ⊢ <;> omega
  · refine Ev.fls (by simpa using hs) (Ev.bind (ha.nt.rcmp hb.nt (by omega)) ?_)
    by_cases hge : z.natAbs ≤ y.natAbs
    · refine Ev.tru (dec_t ?_) ?_
      · unfold sgn
        by_cases h1 : ((y.natAbs : Nat) : Int) = (z.natAbs : Nat)
        · rw [if_neg (by omega), if_pos h1]; omega
        · rw [if_neg (by omega), if_neg h1]; omega
      refine Ev.bind (ha.nt.rsub hb.nt (by omega) hge) ?_
      have n1 : Nt M (FK.lim (y.natAbs - z.natAbs)) (y.natAbs - z.natAbs) := Nt.of (Nat.le_trans (L_sub _ _) la)
      refine Ev.bind (r2made_ev n1 (by omega) ?_) Ev.pure
      cases h3 : a.1 <;> cases h4 : b.1 <;> rw [h3] at h1 hs <;> rw [h4] at h2 hs <;> simp at h1 h2 hs ⊢ <;> omega
    · refine Ev.fls (dec_f ?_) ?_
      · rw [sgn_lt (by omega)]; omega
      refine Ev.bind (hb.nt.rsub ha.nt (by omega) (by omega)) ?_
      have n1 : Nt M (FK.lim (z.natAbs - y.natAbs)) (z.natAbs - y.natAbs) := Nt.of (Nat.le_trans (L_sub _ _) lb)
      refine Ev.bind (r2made_ev n1 (by omega) ?_) Ev.pure
      cases h3 : a.1 <;> cases h4 : b.1 <;> rw [h3] at h1 hs <;> rw [h4] at h2 hs <;> simp at h1 h2 hs ⊢ <;> omega

theorem Zt.rsub {M : Nat} {a b : Bool × List Int} {y z : Int} (ha : Zt M a y) (hb : Zt M b z) (hM : M ≤ 8796093022207) : Ev (fun k => ref02_Sub.f k a b) (int (y - z)) := by
  unfold ref02_Sub.f ref02_Sub.e
  have h1 : Zt M (int (-z)) (-z) := Zt.of (by rw [LZ_neg]; exact hb.LZ)
  have := ha.radd h1 hM
  rw [← Int.sub_eq_add_neg] at this
  exact Ev.bind (hb.rneg (by omega)) (Ev.bind this Ev.pure)

/-! ### Rational numbers -/
theorem Rt.rnorm {M : Nat} {r : RR} {q : Rat} (h : Rt M r q) (hM : M ≤ 17592186044415) : Ev (fun k => ref03_Norm.f k r) (rat q) := by
  have p9 : ∀ x, Ev (fun k => ref03_Norm.p9 k x) (rat 0) := by
    intro x
    refine Ev.turn (fun k => ref03_Norm.p9_succ k _) ?_
    unfold ref03_Norm.e9
    rw [rat_zero]
    exact Ev.pure
  unfold ref03_Norm.f ref03_Norm.e
  refine Ev.bind (h.zt.rnorm (by omega)) (Ev.bind (h.nt.rNorm (by omega)) ?_)
  have hv := h.val
  unfold Qv at hv
  have lz := h.zt.LZ
  have ld := h.nt.L
  generalize Zv r.1 = z at *
  generalize (V r.2).toNat = d at *
  by_cases hd : d = 0
  · subst hd
    rw [Rat.mkRat_zero] at hv
    rw [← hv, lim_zero]
    exact Ev.tru (by simp) (p9 _)
  have hdp := L_pos hd
  refine Ev.fls (dec_f (by unfold FK.L at hdp; omega)) ?_
  by_cases hz : z = 0
  · subst hz
    rw [Rat.zero_mkRat] at hv
    rw [← hv, int_zero]
    exact Ev.tru (by simp) (p9 _)
  have hzp := L_pos (n := z.natAbs) (by omega)
  refine Ev.fls (dec_f (by unfold FK.L at hzp; unfold int; simp only []; omega)) ?_
  have nz : Nt M (FK.lim z.natAbs) z.natAbs := Nt.of lz
  have nd : Nt M (FK.lim d) d := Nt.of ld
  have hg0 : Nat.gcd z.natAbs d ≠ 0 := fun h => hd (Nat.eq_zero_of_gcd_eq_zero_right h)
  have hgL : L (Nat.gcd z.natAbs d) ≤ M := Nat.le_trans (L_mono (Nat.gcd_le_right _ (by omega))) ld
  have hg := nz.rgcd nd hM
  rw [← hv, rat_mkRat z hd]
  have hdv := Nat.gcd_dvd_left z.natAbs d
  generalize Nat.gcd z.natAbs d = g at *
  have ng : Nt M (lim g) g := Nt.of hgL
  refine Ev.bind hg (Ev.bind (nz.rdiv ng hM hg0) (Ev.bind (nd.rdiv ng hM hg0) ?_))
  obtain ⟨c, hc⟩ := hdv
  have hq : z.natAbs / g = c := by rw [hc, Nat.mul_div_cancel_left _ (by omega)]
  have hc0 : c ≠ 0 := by intro h; rw [h] at hc; omega
  have e : int (z / (g : Nat)) = (decide (z < 0), lim (z.natAbs / g)) := by
    unfold int
    have hgp : (0 : Int) < g := by omega
    by_cases hneg : z < 0
    · have hzc : z = (g : Int) * (-(c : Int)) := by
        have : (z.natAbs : Int) = ((g * c : Nat) : Int) := by rw [hc]
        rw [Int.natCast_mul] at this
        rw [Int.mul_neg]; omega
      rw [hq, hzc, Int.mul_ediv_cancel_left _ (by omega)]
      rw [Int.natAbs_neg, Int.natAbs_natCast, dec_t (by omega), dec_t (by rw [← hzc]; exact hneg)]
    · have hzc : z = (g : Int) * (c : Int) := by
        have : (z.natAbs : Int) = ((g * c : Nat) : Int) := by rw [hc]
        rw [Int.natCast_mul] at this
        omega
      rw [hq, hzc, Int.mul_ediv_cancel_left _ (by omega)]
      rw [Int.natAbs_natCast, dec_f (by omega), dec_f (by rw [← hzc]; exact hneg)]
  rw [e]
  exact Ev.pure

theorem Rt.mk2 {M : Nat} {a : Bool × List Int} {b : List Int} {z : Int} {d : Nat} (ha : Zt M a z) (hb : Nt M b d) : Rt M (a, b) (mkRat z d) := ⟨ha.lim, hb.lim, ha.len, hb.len, by
  unfold Qv
  rw [ha.val, hb.val, Int.toNat_natCast]⟩

theorem int_mk {b : Bool} {n : Nat} {z : Int} (hn : n = z.natAbs) (hb : z = if b then -(n : Int) else n) (M : Nat) (hM : L n ≤ M) : Zt M (b, lim n) z := by
  refine ⟨Lim_lim _, ?_, hM⟩
  unfold Zv
  simp only [V_lim]
  rw [hb]

theorem Zt.rof_zero {M : Nat} {a b : Bool × List Int} {y : Int} (ha : Zt M a y) (hb : Zt M b 0) (hM : M ≤ 8796093022207) : Ev (fun k => ref03_Of.f k a b) (noRat, (11 : Int)) := by
  unfold ref03_Of.f ref03_Of.e
  refine Ev.bind (ha.rnorm (by omega)) (Ev.bind (hb.rnorm (by omega)) ?_)
  rw [int_zero]
  exact Ev.tru (by simp) Ev.pure
theorem Zt.rof_ev {M : Nat} {a b : Bool × List Int} {y z : Int} (ha : Zt M a y) (hb : Zt M b z) (hM : M ≤ 8796093022207) (hz : z ≠ 0) : Ev (fun k => ref03_Of.f k a b) (rat (Rat.divInt y z), (0 : Int)) := by
  unfold ref03_Of.f ref03_Of.e
  have la := ha.LZ
  have lb := hb.LZ
  have hzp := L_pos (n := z.natAbs) (by omega)
  refine Ev.bind (ha.rnorm (by omega)) (Ev.bind (hb.rnorm (by omega)) ?_)
  refine Ev.fls (dec_f (by unfold FK.L at hzp; unfold int; simp only []; omega)) ?_
  have hc := divInt_cases y z
  have hy : Zt M (!((int y).1 == (int z).1), (int y).2) (if z < 0 then -y else y) := by
    refine int_mk (by split <;> omega) ?_ M la
    unfold int
    by_cases h1 : y < 0 <;> by_cases h2 : z < 0 <;> simp [h1, h2] <;> omega
  have hn : Nt M (int z).2 z.natAbs := Nt.of lb
  have hr := Rt.mk2 hy hn
  have e : mkRat (if z < 0 then -y else y) z.natAbs = Rat.divInt y z := by
    by_cases h : z < 0
    · rw [if_pos h, hc.1 h]
    · rw [if_neg h, hc.2 (by omega)]
  rw [e] at hr
  exact Ev.bind (hr.rnorm (by omega)) Ev.pure

theorem Zt.rint {M : Nat} {a : Bool × List Int} {z : Int} (h : Zt M a z) (h1 : 1 ≤ M) (hM : M ≤ 17592186044415) : Ev (fun k => ref03_Int.f k a) (rat (z : Rat)) := by
  unfold ref03_Int.f ref03_Int.e
  have one : Nt M [1] 1 := ⟨Lim.mk (by simp [B]) Lim.nil, by simp [V], by simpa using h1⟩
  have := Rt.mk2 h one
  rw [show mkRat z 1 = (z : Rat) from Rat.mkRat_self (z : Rat)] at this
  exact Ev.bind (this.rnorm hM) Ev.pure

theorem Rt.rinv {M : Nat} {r : RR} {q : Rat} (h : Rt M r q) (h1 : 1 ≤ M) (hM : M ≤ 4398046511103) (hq : q ≠ 0) : Ev (fun k => ref03_Inv.f k r) (rat q⁻¹, (0 : Int)) := by
  unfold ref03_Inv.f ref03_Inv.e ref03_positive.f ref03_positive.e
  have hL := h.LQ h1
  refine Ev.bind (h.rnorm (by omega)) (Ev.bind Ev.pure ?_)
  rw [Rat.inv_def]
  have hn : q.num ≠ 0 := fun h => hq (Rat.num_eq_zero.1 h)
  exact Ev.bind (Zt.rof_ev (Zt.pos (Rt.den' hL)) (Rt.num' hL) (by omega) hn) Ev.pure
theorem Rt.rinv_zero {M : Nat} {r : RR} (h : Rt M r 0) (h1 : 1 ≤ M) (hM : M ≤ 4398046511103) : Ev (fun k => ref03_Inv.f k r) (noRat, (11 : Int)) := by
  unfold ref03_Inv.f ref03_Inv.e ref03_positive.f ref03_positive.e
  have hL := h.LQ h1
  refine Ev.bind (h.rnorm (by omega)) (Ev.bind Ev.pure ?_)
  exact Ev.bind (Zt.rof_zero (Zt.pos (Rt.den' hL)) (Rt.num' hL) (by omega)) Ev.pure

theorem Rt.rmul {M : Nat} {r s : RR} {p q : Rat} (hr : Rt M r p) (hs : Rt M s q) (h1 : 1 ≤ M) (hM : M ≤ 1099511627775) : Ev (fun k => ref03_Mul.f k r s) (rat (p * q)) := by
  unfold ref03_Mul.f ref03_Mul.e
  have lr := hr.LQ h1
  have ls := hs.LQ h1
  refine Ev.bind (hr.rnorm (by omega)) (Ev.bind (hs.rnorm (by omega)) ?_)
  refine Ev.bind ((Rt.num' lr).rmul (Rt.num' ls) (by omega)) (Ev.bind ((Rt.den' lr).rmul (Rt.den' ls) (by omega)) ?_)
  rw [Rat.mul_def']
  have a1 := LZ_mul p.num q.num
  have a2 := L_mul p.den q.den
  have a3 := LQ_num p; have a4 := LQ_num q; have a5 := LQ_den p; have a6 := LQ_den q
  have hz : Zt (4 * M) (int (p.num * q.num)) (p.num * q.num) := Zt.of (by omega)
  have hn : Nt (4 * M) (lim (p.den * q.den)) (p.den * q.den) := Nt.of (by omega)
  exact Ev.bind ((Rt.mk2 hz hn).rnorm (by omega)) Ev.pure

theorem Rt.rdiv {M : Nat} {r s : RR} {p q : Rat} (hr : Rt M r p) (hs : Rt M s q) (h1 : 1 ≤ M) (hM : M ≤ 274877906943) (hq : q ≠ 0) : Ev (fun k => ref03_Div.f k r s) (rat (p * q⁻¹), (0 : Int)) := by
  unfold ref03_Div.f ref03_Div.e
  refine Ev.bind (hs.rinv h1 (by omega) hq) (Ev.fls (by simp) ?_)
  have hi : Rt (3 * M) (rat q⁻¹) q⁻¹ := Rt.of (by have := LQ_inv q; have := hs.LQ h1; omega)
  exact Ev.bind ((hr.mono (by omega)).rmul hi (by omega) (by omega)) Ev.pure
theorem Rt.rdiv_zero {M : Nat} {r s : RR} {p : Rat} (_hr : Rt M r p) (hs : Rt M s 0) (h1 : 1 ≤ M) (hM : M ≤ 274877906943) : Ev (fun k => ref03_Div.f k r s) (noRat, (11 : Int)) := by
  unfold ref03_Div.f ref03_Div.e
  exact Ev.bind (hs.rinv_zero h1 (by omega)) (Ev.tru (by simp) Ev.pure)

theorem Rt.rsign {M : Nat} {r : RR} {p : Rat} (hr : Rt M r p) (h1 : 1 ≤ M) (hM : M ≤ 1099511627775) : Ev (fun k => ref03_Sign.f k r) p.num.sign := by
  unfold ref03_Sign.f ref03_Sign.e
  exact Ev.bind (hr.rnorm (by omega)) (Ev.bind ((Rt.num' (hr.LQ h1)).rsign (by omega)) Ev.pure)

theorem Rt.rneg {M : Nat} {r : RR} {p : Rat} (hr : Rt M r p) (h1 : 1 ≤ M) (hM : M ≤ 1099511627775) : Ev (fun k => ref03_Neg.f k r) (rat (-p)) := by
  unfold ref03_Neg.f ref03_Neg.e
  have lr := hr.LQ h1
  have hz : Zt (2 * M) (int (-p.num)) (-p.num) := Zt.of (by rw [LZ_neg]; exact Nat.le_trans (LQ_num p) lr)
  have h := Rt.mk2 hz (Rt.den' lr)
  rw [← Rat.neg_mkRat, Rat.mkRat_self] at h
  exact Ev.bind (hr.rnorm (by omega)) (Ev.bind ((Rt.num' lr).rneg (by omega)) (Ev.bind (h.rnorm (by omega)) Ev.pure))

theorem Rt.rabs {M : Nat} {r : RR} {p : Rat} (hr : Rt M r p) (h1 : 1 ≤ M) (hM : M ≤ 1099511627775) : Ev (fun k => ref03_Abs.f k r) (rat p.abs) := by
  unfold ref03_Abs.f ref03_Abs.e
  refine Ev.bind (hr.rsign h1 hM) ?_
  by_cases h : p < 0
  · refine Ev.tru (dec_t ((num_sign_neg p).2 h)) ?_
    rw [Rat.abs_of_nonpos (Rat.le_of_lt h)]
    exact Ev.bind (hr.rneg h1 hM) Ev.pure
  · refine Ev.fls (dec_f (by rw [num_sign_neg]; exact h)) ?_
    rw [Rat.abs_of_nonneg (Rat.not_lt.1 h)]
    exact Ev.bind (hr.rnorm (by omega)) Ev.pure

theorem Rt.radd {M : Nat} {r s : RR} {p q : Rat} (hr : Rt M r p) (hs : Rt M s q) (h1 : 1 ≤ M) (hM : M ≤ 1099511627775) : Ev (fun k => ref03_Add.f k r s) (rat (p + q)) := by
  unfold ref03_Add.f ref03_Add.e ref03_positive.f ref03_positive.e
  have lr := hr.LQ h1
  have ls := hs.LQ h1
  refine Ev.bind (hr.rnorm (by omega)) (Ev.bind (hs.rnorm (by omega)) ?_)
  refine Ev.bind Ev.pure (Ev.bind ((Rt.num' lr).rmul (Zt.pos (Rt.den' ls)) (by omega)) (Ev.bind Ev.pure (Ev.bind ((Rt.num' ls).rmul (Zt.pos (Rt.den' lr)) (by omega)) ?_)))
  have a1 := LZ_mul p.num q.den
  have a2 := LZ_mul q.num p.den
  have a7 := LZ_add (p.num * q.den) (q.num * p.den)
  have a8 := L_mul p.den q.den
  have a3 := LQ_num p; have a4 := LQ_num q; have a5 := LQ_den p; have a6 := LQ_den q
  rw [LZ_nat] at a1 a2
  have hz : Zt (4 * M) (int (p.num * q.den)) (p.num * q.den) := Zt.of (by omega)
  have hy : Zt (4 * M) (int (q.num * p.den)) (q.num * p.den) := Zt.of (by omega)
  have hn : Nt (5 * M) (lim (p.den * q.den)) (p.den * q.den) := Nt.of (by omega)
  have hw : Zt (5 * M) (int (p.num * q.den + q.num * p.den)) (p.num * q.den + q.num * p.den) := Zt.of (by omega)
  rw [Rat.add_def']
  exact Ev.bind (hz.radd hy (by omega)) (Ev.bind ((Rt.den' lr).rmul (Rt.den' ls) (by omega)) (Ev.bind ((Rt.mk2 hw hn).rnorm (by omega)) Ev.pure))

theorem Rt.rsub {M : Nat} {r s : RR} {p q : Rat} (hr : Rt M r p) (hs : Rt M s q) (h1 : 1 ≤ M) (hM : M ≤ 274877906943) : Ev (fun k => ref03_Sub.f k r s) (rat (p - q)) := by
  unfold ref03_Sub.f ref03_Sub.e
  have hn : Rt (2 * M) (rat (-q)) (-q) := Rt.of (by rw [LQ_neg]; exact hs.LQ h1)
  rw [Rat.sub_eq_add_neg]
  exact Ev.bind (hs.rneg h1 (by omega)) (Ev.bind ((hr.mono (by omega)).radd hn (by omega) (by omega)) Ev.pure)

theorem qs_sub (p q : Rat) : (p - q).num.sign = qs p q := by
  rcases qs_cases p q with h | h | h
  · have h1 := qs_neg.1 (by omega : qs p q < 0)
    have h2 : (p - q).num.sign < 0 := (num_sign_neg _).2 (by
      rw [Rat.sub_eq_add_neg]
      have := Rat.add_lt_add_right (c := -q) |>.2 h1
      rw [Rat.add_neg_cancel] at this
      exact this)
    have := sign_cases (p - q).num
    omega
  · rw [h, qs_zero.1 h, Rat.sub_self]; rfl
  · have h1 : q < p := by
      rcases Rat.le_iff_lt_or_eq.1 (Rat.not_lt.1 (fun h2 => by rw [qs_lt h2] at h; omega) : q ≤ p) with h3 | h3
      · exact h3
      · rw [qs_eq h3.symm] at h; omega
    have h2 : 0 < p - q := (Rat.lt_iff_sub_pos q p).1 h1
    have h3 : 0 < (p - q).num := by
      have h4 := Rat.num_nonneg.2 (Rat.le_of_lt h2)
      have h5 : (p - q).num ≠ 0 := fun h6 => by
        rw [Rat.num_eq_zero.1 h6] at h2
        exact Rat.lt_irrefl h2
      omega
    rw [Int.sign_eq_one_of_pos h3, h]

theorem Rt.rcmp {M : Nat} {r s : RR} {p q : Rat} (hr : Rt M r p) (hs : Rt M s q) (h1 : 1 ≤ M) (hM : M ≤ 109951162777) : Ev (fun k => ref03_Cmp.f k r s) (qs p q) := by
  unfold ref03_Cmp.f ref03_Cmp.e
  have lp := hr.LQ h1
  have lq := hs.LQ h1
  have hL := LQ_sub p q
  have hd : Rt (9 * M) (rat (p - q)) (p - q) := Rt.of (by omega)
  rw [← qs_sub]
  exact Ev.bind (hr.rsub hs h1 (by omega)) (Ev.bind (hd.rsign (by omega) (by omega)) Ev.pure)

end Go.FK
