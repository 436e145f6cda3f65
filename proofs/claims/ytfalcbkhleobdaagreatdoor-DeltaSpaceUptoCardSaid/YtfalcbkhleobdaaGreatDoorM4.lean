
/- The plain law of Delta: twins, the fixed question, sums; Norms, Sums, Space. -/
import Derived.Test.YtfalcbkhleobdaaGreatDoorM3
namespace Go.FK

abbrev DD := RR × RR
structure Dt (M : Nat) (d : DD) (p q : Rat) : Prop where
  a : Rt M d.1 p
  b : Rt M d.2 q
def dlt (p q : Rat) : DD := (rat p, rat q)
def noDelta : DD := (noRat, noRat)

variable {M : Nat} {d e : DD} {p q s t c : Rat} {r : RR}

theorem Dt.of (hp : LQ p ≤ M) (hq : LQ q ≤ M) : Dt M (dlt p q) p q := ⟨Rt.of hp, Rt.of hq⟩
theorem Dt.mono {M' : Nat} (h : Dt M d p q) (hM : M ≤ M') : Dt M' d p q := ⟨h.a.mono hM, h.b.mono hM⟩

theorem Rt.rat5 (h : Rt M r q) (hM : M ≤ 70368744177664) : Ev (fun k => law05_rat.f k r) r := by
  have h1 := h.nlen
  have h2 := h.dlen
  unfold law05_rat.f law05_rat.e
  exact Ev.bind (law05_nat_ev r.1.2 (by omega)) (Ev.bind (law05_nat_ev r.2 (by omega)) Ev.pure)
theorem Dt.twin (h : Dt M d p q) (hM : M ≤ 70368744177664) : Ev (fun k => law05_twin.f k d) d := by
  unfold law05_twin.f law05_twin.e
  exact Ev.bind (h.a.rat5 hM) (Ev.bind (h.b.rat5 hM) Ev.pure)

theorem same3 (h : LQ q ≤ M) (hM : M ≤ 35184372088832) : Ev (fun k => ref03_Same.f k (rat q) (rat q)) true := by
  have h1 := LQ_num q
  have h2 := LQ_den q
  have := r3Same_ev (rat q) (rat q) (by show L q.num.natAbs ≤ _; unfold LZ at h1; omega) (by show L q.den ≤ _; omega)
  rw [dec_t rfl] at this
  exact this
theorem same5 (hp : LQ p ≤ M) (hq : LQ q ≤ M) (hM : M ≤ 35184372088832) : Ev (fun k => law05_same.f k (dlt p q) (dlt p q)) true := by
  unfold law05_same.f law05_same.e ref05_Same.f ref05_Same.e
  exact Ev.bind (Ev.bind (same3 hp hM) (Ev.tru rfl (Ev.bind (same3 hq hM) Ev.pure))) Ev.pure
theorem same5' (e1 : p = s) (e2 : q = t) (hp : LQ p ≤ M) (hq : LQ q ≤ M) (hM : M ≤ 35184372088832) : Ev (fun k => law05_same.f k (dlt p q) (dlt s t)) true := by
  subst e1; subst e2; exact same5 hp hq hM

theorem lives_at (n : Nat) : law05_lives.f (n + 128) () = some true := by kernel_rfl
theorem lives_ev : Ev (fun k => law05_lives.f k ()) true := ⟨128, fun k hk => by
  obtain ⟨n, rfl⟩ : ∃ n, k = n + 128 := ⟨k - 128, by omega⟩
  exact lives_at n⟩

/-! ### The operations -/
theorem Dt.norm (h : Dt M d p q) (hM : M ≤ 17592186044415) : Ev (fun k => delta_Norm.f k d) (dlt p q) := by
  unfold delta_Norm.f delta_Norm.e
  exact Ev.bind (h.a.norm hM) (Ev.bind (h.b.norm hM) Ev.pure)
theorem Dt.rnorm (h : Dt M d p q) (hM : M ≤ 17592186044415) : Ev (fun k => ref05_Norm.f k d) (dlt p q) := by
  unfold ref05_Norm.f ref05_Norm.e
  exact Ev.bind (h.a.rnorm hM) (Ev.bind (h.b.rnorm hM) Ev.pure)
theorem noRat_rt : Rt 0 noRat 0 := ⟨Lim.nil, Lim.nil, Nat.le_refl _, Nat.le_refl _, by decide +kernel⟩
theorem Rt.dof (h : Rt M r p) (hM : M ≤ 17592186044415) : Ev (fun k => delta_Of.f k r) (dlt p 0) := by
  unfold delta_Of.f delta_Of.e
  exact Ev.bind (h.norm hM) (Ev.bind (whole_Whole_ev (n := 0) (by omega)) Ev.pure)
theorem Rt.rdof (h : Rt M r p) (hM : M ≤ 17592186044415) : Ev (fun k => ref05_Of.f k r) (dlt p 0) := by
  unfold ref05_Of.f ref05_Of.e
  have : Dt M (r, noRat) p 0 := ⟨h, noRat_rt.mono (by omega)⟩
  exact Ev.bind (this.rnorm hM) Ev.pure

def dsg (p q : Rat) : Int := if p.num.sign = 0 then q.num.sign else p.num.sign
def dcm (p q s t : Rat) : Int := if qs p s = 0 then qs q t else qs p s
theorem dsg_cases (p q : Rat) : dsg p q = -1 ∨ dsg p q = 0 ∨ dsg p q = 1 := by
  unfold dsg; split; exact sign_cases _; exact sign_cases _
theorem dcm_cases (p q s t : Rat) : dcm p q s t = -1 ∨ dcm p q s t = 0 ∨ dcm p q s t = 1 := by
  unfold dcm; split; exact qs_cases _ _; exact qs_cases _ _
theorem Dt.sign (h : Dt M d p q) (h1 : 1 ≤ M) (hM : M ≤ 1099511627775) : Ev (fun k => delta_Sign.f k d) (dsg p q) := by
  unfold delta_Sign.f delta_Sign.e dsg
  refine Ev.bind (h.a.sign h1 hM) ?_
  by_cases h0 : p.num.sign = 0
  · rw [if_pos h0]
    exact Ev.fls (by rw [decide_eq_true h0]; rfl) (Ev.bind (h.b.sign h1 hM) Ev.pure)
  · rw [if_neg h0]
    exact Ev.tru (by rw [decide_eq_false h0]; rfl) Ev.pure
theorem Dt.rsign (h : Dt M d p q) (h1 : 1 ≤ M) (hM : M ≤ 1099511627775) : Ev (fun k => ref05_Sign.f k d) (dsg p q) := by
  unfold ref05_Sign.f ref05_Sign.e dsg
  refine Ev.bind (h.a.rsign h1 hM) ?_
  by_cases h0 : p.num.sign = 0
  · rw [if_pos h0]
    exact Ev.fls (by rw [decide_eq_true h0]; rfl) (Ev.bind (h.b.rsign h1 hM) Ev.pure)
  · rw [if_neg h0]
    exact Ev.tru (by rw [decide_eq_false h0]; rfl) Ev.pure
theorem Dt.cmp (h : Dt M d p q) (g : Dt M e s t) (h1 : 1 ≤ M) (hM : M ≤ 1099511627775) : Ev (fun k => delta_Cmp.f k d e) (dcm p q s t) := by
  unfold delta_Cmp.f delta_Cmp.e dcm
  refine Ev.bind (h.a.cmp g.a h1 hM) ?_
  by_cases h0 : qs p s = 0
  · rw [if_pos h0]
    exact Ev.fls (by rw [decide_eq_true h0]; rfl) (Ev.bind (h.b.cmp g.b h1 hM) Ev.pure)
  · rw [if_neg h0]
    exact Ev.tru (by rw [decide_eq_false h0]; rfl) Ev.pure
theorem Dt.neg (h : Dt M d p q) (h1 : 1 ≤ M) (hM : M ≤ 1099511627775) : Ev (fun k => delta_Neg.f k d) (dlt (-p) (-q)) := by
  unfold delta_Neg.f delta_Neg.e
  exact Ev.bind (h.a.neg h1 hM) (Ev.bind (h.b.neg h1 hM) Ev.pure)
theorem Dt.rneg (h : Dt M d p q) (h1 : 1 ≤ M) (hM : M ≤ 1099511627775) : Ev (fun k => ref05_Neg.f k d) (dlt (-p) (-q)) := by
  unfold ref05_Neg.f ref05_Neg.e
  exact Ev.bind (h.a.rneg h1 hM) (Ev.bind (h.b.rneg h1 hM) Ev.pure)
theorem Dt.add (h : Dt M d p q) (g : Dt M e s t) (h1 : 1 ≤ M) (hM : M ≤ 1099511627775) : Ev (fun k => delta_Add.f k d e) (dlt (p + s) (q + t)) := by
  unfold delta_Add.f delta_Add.e
  exact Ev.bind (h.a.add g.a h1 hM) (Ev.bind (h.b.add g.b h1 hM) Ev.pure)
theorem Dt.radd (h : Dt M d p q) (g : Dt M e s t) (h1 : 1 ≤ M) (hM : M ≤ 1099511627775) : Ev (fun k => ref05_Add.f k d e) (dlt (p + s) (q + t)) := by
  unfold ref05_Add.f ref05_Add.e
  exact Ev.bind (h.a.radd g.a h1 hM) (Ev.bind (h.b.radd g.b h1 hM) Ev.pure)
theorem Dt.sub (h : Dt M d p q) (g : Dt M e s t) (h1 : 1 ≤ M) (hM : M ≤ 274877906943) : Ev (fun k => delta_Sub.f k d e) (dlt (p - s) (q - t)) := by
  unfold delta_Sub.f delta_Sub.e
  exact Ev.bind (h.a.sub g.a h1 hM) (Ev.bind (h.b.sub g.b h1 hM) Ev.pure)
theorem Dt.rsub (h : Dt M d p q) (g : Dt M e s t) (h1 : 1 ≤ M) (hM : M ≤ 274877906943) : Ev (fun k => ref05_Sub.f k d e) (dlt (p - s) (q - t)) := by
  unfold ref05_Sub.f ref05_Sub.e
  exact Ev.bind (h.a.rsub g.a h1 hM) (Ev.bind (h.b.rsub g.b h1 hM) Ev.pure)
theorem Dt.rcmp (h : Dt M d p q) (g : Dt M e s t) (h1 : 1 ≤ M) (hM : M ≤ 100000000000) : Ev (fun k => ref05_Cmp.f k d e) (dcm p q s t) := by
  unfold ref05_Cmp.f ref05_Cmp.e
  have l1 := LQ_sub p s
  have l2 := LQ_sub q t
  have a1 := h.a.LQ h1
  have a2 := h.b.LQ h1
  have a3 := g.a.LQ h1
  have a4 := g.b.LQ h1
  have e1 : dsg (p - s) (q - t) = dcm p q s t := by unfold dsg dcm; rw [qs_sub, qs_sub]
  refine Ev.bind (h.rsub g h1 (by omega)) (Ev.bind ((Dt.of (M := 9 * M) (by omega) (by omega)).rsign (by omega) (by omega)) ?_)
  rw [e1]; exact Ev.pure
theorem Dt.scale (hr : Rt M r c) (h : Dt M d p q) (h1 : 1 ≤ M) (hM : M ≤ 1099511627775) : Ev (fun k => delta_Scale.f k r d) (dlt (c * p) (c * q)) := by
  unfold delta_Scale.f delta_Scale.e
  exact Ev.bind (hr.mul h.a h1 hM) (Ev.bind (hr.mul h.b h1 hM) Ev.pure)
theorem Dt.rscale (hr : Rt M r c) (h : Dt M d p q) (h1 : 1 ≤ M) (hM : M ≤ 1099511627775) : Ev (fun k => ref05_Scale.f k r d) (dlt (c * p) (c * q)) := by
  unfold ref05_Scale.f ref05_Scale.e
  exact Ev.bind (hr.rmul h.a h1 hM) (Ev.bind (hr.rmul h.b h1 hM) Ev.pure)
theorem Dt.at (h : Dt M d p q) (hr : Rt M r c) (h1 : 1 ≤ M) (hM : M ≤ 100000000000) : Ev (fun k => delta_At.f k d r) (rat (p + q * c)) := by
  unfold delta_At.f delta_At.e
  have l1 := LQ_mul q c
  have a2 := h.b.LQ h1
  have a3 := hr.LQ h1
  exact Ev.bind (h.b.mul hr h1 (by omega)) (Ev.bind ((h.a.mono (M' := 9 * M) (by omega)).add (Rt.of (by omega)) (by omega) (by omega)) Ev.pure)
theorem Dt.rat (h : Dt M d p q) (hr : Rt M r c) (h1 : 1 ≤ M) (hM : M ≤ 100000000000) : Ev (fun k => ref05_At.f k d r) (rat (p + q * c)) := by
  unfold ref05_At.f ref05_At.e
  have l1 := LQ_mul q c
  have a2 := h.b.LQ h1
  have a3 := hr.LQ h1
  exact Ev.bind (h.b.rmul hr h1 (by omega)) (Ev.bind ((h.a.mono (M' := 9 * M) (by omega)).radd (Rt.of (by omega)) (by omega) (by omega)) Ev.pure)

/-! ### Norms, Sums -/
theorem dnorms_ev (h : Dt M d p q) (g : Dt M e s t) (h1 : 1 ≤ M) (hM : M ≤ 1000000000) : Ev (fun k => law05_DeltaNorms.f k d e) true := by
  unfold law05_DeltaNorms.f law05_DeltaNorms.e
  have a1 := h.a.LQ h1
  have a2 := h.b.LQ h1
  have th := h.twin (by omega)
  have z : LQ 0 ≤ 2 * M := by rw [LQ_zero]; omega
  refine Ev.bind lives_ev (Ev.fls rfl ?_)
  refine Ev.bind th (Ev.bind (h.norm (by omega)) (Ev.bind (h.rnorm (by omega)) (Ev.bind (same5 a1 a2 (by omega)) (Ev.fls rfl ?_))))
  refine Ev.bind (h.a.rat5 (by omega)) (Ev.bind (h.a.dof (by omega)) (Ev.bind (h.a.rdof (by omega)) (Ev.bind (same5 a1 z (by omega)) (Ev.fls rfl ?_))))
  refine Ev.bind th (Ev.bind (h.sign h1 (by omega)) (Ev.bind (h.rsign h1 (by omega)) (Ev.tru (by simp) ?_)))
  refine Ev.bind th (Ev.bind (g.twin (by omega)) (Ev.bind (h.cmp g h1 (by omega)) (Ev.bind (h.rcmp g h1 (by omega)) (Ev.eq (by simp)))))

theorem dsums_ev (h : Dt M d p q) (g : Dt M e s t) (hr : Rt M r c) (h1 : 1 ≤ M) (hM : M ≤ 1000000000) : Ev (fun k => law05_DeltaSums.f k d e r) true := by
  unfold law05_DeltaSums.f law05_DeltaSums.e
  have a1 := h.a.LQ h1
  have a2 := h.b.LQ h1
  have a3 := g.a.LQ h1
  have a4 := g.b.LQ h1
  have a5 := hr.LQ h1
  have th := h.twin (by omega)
  have tg := g.twin (by omega)
  have tr := hr.rat5 (by omega)
  have l1 := LQ_add p s
  have l2 := LQ_add q t
  have l3 := LQ_sub p s
  have l4 := LQ_sub q t
  have l5 := LQ_mul c p
  have l6 := LQ_mul c q
  have l7 := LQ_mul q c
  have l8 := LQ_add p (q * c)
  refine Ev.bind lives_ev (Ev.fls rfl ?_)
  refine Ev.bind th (Ev.bind (h.neg h1 (by omega)) (Ev.bind (h.rneg h1 (by omega)) (Ev.bind (same5 (M := 2 * M) (by rw [LQ_neg]; omega) (by rw [LQ_neg]; omega) (by omega)) (Ev.fls rfl ?_))))
  refine Ev.bind th (Ev.bind tg (Ev.bind (h.add g h1 (by omega)) (Ev.bind (h.radd g h1 (by omega)) (Ev.bind (same5 (M := 9 * M) (by omega) (by omega) (by omega)) (Ev.fls rfl ?_)))))
  refine Ev.bind th (Ev.bind tg (Ev.bind (h.sub g h1 (by omega)) (Ev.bind (h.rsub g h1 (by omega)) (Ev.bind (same5 (M := 9 * M) (by omega) (by omega) (by omega)) (Ev.fls rfl ?_)))))
  refine Ev.bind tr (Ev.bind th (Ev.bind (Dt.scale hr h h1 (by omega)) (Ev.bind (Dt.rscale hr h h1 (by omega)) (Ev.bind (same5 (M := 9 * M) (by omega) (by omega) (by omega)) (Ev.tru rfl ?_)))))
  exact Ev.bind th (Ev.bind tr (Ev.bind (h.at hr h1 (by omega)) (Ev.bind (h.rat hr h1 (by omega)) (Ev.bind (same3 (M := 99 * M) (by omega) (by omega)) Ev.pure))))

/-! ### Space -/
theorem dcm_anti (p q s t : Rat) : dcm s t p q = - dcm p q s t := by
  unfold dcm
  rw [qs_anti p s, qs_anti q t]
  by_cases h : qs p s = 0
  · rw [if_pos h, if_pos (by omega)]
  · rw [if_neg h, if_neg (by omega)]
theorem dcm_add (p q s t x y : Rat) : dcm (p + x) (q + y) (s + x) (t + y) = dcm p q s t := by
  unfold dcm
  rw [qs_add_right, qs_add_right]
theorem dcm_scale (p q s t c : Rat) : dcm (c * p) (c * q) (c * s) (c * t) = dcm p q s t * c.num.sign := by
  unfold dcm
  rw [Rat.mul_comm c p, Rat.mul_comm c q, Rat.mul_comm c s, Rat.mul_comm c t, qs_mul_right, qs_mul_right]
  by_cases h : qs p s = 0
  · rw [if_pos h, if_pos (by rw [h]; simp)]
  · rw [if_neg h]
    by_cases h2 : c.num.sign = 0
    · rw [h2]; simp
    · rw [if_neg (by intro h3; rcases Int.mul_eq_zero.1 h3 with h4 | h4; exact h h4; exact h2 h4)]

theorem dspace_ev (h : Dt M d p q) (g : Dt M e s t) (hr : Rt M r c) (h1 : 1 ≤ M) (hM : M ≤ 10000000) : Ev (fun k => law05_DeltaSpace.f k d e r) true := by
  unfold law05_DeltaSpace.f law05_DeltaSpace.e
  have a1 := h.a.LQ h1
  have a2 := h.b.LQ h1
  have a3 := g.a.LQ h1
  have a4 := g.b.LQ h1
  have a5 := hr.LQ h1
  have th := h.twin (by omega)
  have tg := g.twin (by omega)
  have tr := hr.rat5 (by omega)
  have l1 := LQ_add p s
  have l2 := LQ_add q t
  have l3 := LQ_add s p
  have l4 := LQ_add t q
  have l5 := LQ_mul c p
  have l6 := LQ_mul c q
  have l7 := LQ_mul c s
  have l8 := LQ_mul c t
  have l9 := LQ_add s s
  have l10 := LQ_add t t
  have l11 := LQ_mul c (p + s)
  have l12 := LQ_mul c (q + t)
  have ab : Dt (9 * M) (dlt (p + s) (q + t)) (p + s) (q + t) := Dt.of (by omega) (by omega)
  have ca : Dt (9 * M) (dlt (c * p) (c * q)) (c * p) (c * q) := Dt.of (by omega) (by omega)
  have cb : Dt (9 * M) (dlt (c * s) (c * t)) (c * s) (c * t) := Dt.of (by omega) (by omega)
  have bb : Dt (9 * M) (dlt (s + s) (t + t)) (s + s) (t + t) := Dt.of (by omega) (by omega)
  have g' := g.mono (M' := 9 * M) (by omega)
  have hr' := hr.mono (M' := 9 * M) (by omega)
  have hc := dcm_cases p q s t
  have hs := sign_cases c.num
  refine Ev.bind lives_ev (Ev.fls rfl ?_)
  refine Ev.bind th (Ev.bind tg (Ev.bind (h.add g h1 (by omega)) ?_))
  refine Ev.bind tg (Ev.bind th (Ev.bind (g.add h h1 (by omega)) ?_))
  refine Ev.bind (same5' (M := 9 * M) (Rat.add_comm p s) (Rat.add_comm q t) (by omega) (by omega) (by omega)) (Ev.fls rfl ?_)
  refine Ev.bind tg (Ev.bind (ab.sub g' (by omega) (by omega)) (Ev.bind th (Ev.bind (h.norm (by omega)) ?_)))
  refine Ev.bind (same5' (M := 9 * M) (Rat.add_sub_cancel (a := p) (b := s)) (Rat.add_sub_cancel (a := q) (b := t)) (by rw [Rat.add_sub_cancel]; omega) (by rw [Rat.add_sub_cancel]; omega) (by omega)) (Ev.fls rfl ?_)
  refine Ev.bind tr (Ev.bind (Dt.scale hr' ab (by omega) (by omega)) ?_)
  refine Ev.bind tr (Ev.bind th (Ev.bind (Dt.scale hr h h1 (by omega)) ?_))
  refine Ev.bind tr (Ev.bind tg (Ev.bind (Dt.scale hr g h1 (by omega)) ?_))
  refine Ev.bind (ca.add cb (by omega) (by omega)) (Ev.bind (same5' (M := 99 * M) (Rat.mul_add c p s) (Rat.mul_add c q t) (by omega) (by omega) (by omega)) (Ev.fls rfl ?_))
  refine Ev.bind th (Ev.bind tg (Ev.bind (h.cmp g h1 (by omega)) ?_))
  refine Ev.bind tg (Ev.bind th (Ev.bind (g.cmp h h1 (by omega)) (Ev.fls ?_ ?_)))
  · rw [dcm_anti p q s t, wrap_i64 (by omega) (by omega), show 0 - -dcm p q s t = dcm p q s t by omega]; simp
  refine Ev.bind tg (Ev.bind tg (Ev.bind (g.add g h1 (by omega)) (Ev.bind (ab.cmp bb (by omega) (by omega)) (Ev.fls (by rw [dcm_add]; simp) ?_))))
  refine Ev.bind tr (Ev.bind th (Ev.bind (Dt.scale hr h h1 (by omega)) ?_))
  refine Ev.bind tr (Ev.bind tg (Ev.bind (Dt.scale hr g h1 (by omega)) ?_))
  refine Ev.bind (ca.cmp cb (by omega) (by omega)) (Ev.bind (hr.rsign h1 (by omega)) (Ev.eq ?_))
  rw [dcm_scale, wrap_i64, decide_eq_true rfl]
  all_goals rcases hc with h | h | h <;> rcases hs with h' | h' | h' <;> rw [h, h'] <;> decide

/-! ### The statements -/
abbrev tyDelta : Ty := .st (.pair tyRat tyRat)
theorem delta_dt {d : DD} (h : tyDelta.wf d) {M : Nat} (hM : tyDelta.mass d ≤ M) : Dt M d (Qv d.1) (Qv d.2) := by
  have h1 : tyRat.wf d.1 := h.1
  have h2 : tyRat.wf d.2 := h.2
  have hm : tyDelta.mass d = tyRat.mass d.1 + tyRat.mass d.2 := rfl
  exact ⟨rat_rt h1 (by omega), rat_rt h2 (by omega)⟩
theorem dnorms_math (x : TD [tyDelta, tyDelta]) (hw : wfDs (encT [tyDelta, tyDelta] x)) (hm : massDs (encT [tyDelta, tyDelta] x) ≤ 1048576) : ∃ k, law05_DeltaNorms.f k x.1 x.2 = some true := by
  obtain ⟨h1, h2, _⟩ := hw
  have hm' : tyDelta.mass x.1 + (tyDelta.mass x.2 + 0) ≤ 1048576 := hm
  exact (dnorms_ev (delta_dt (d := x.1) h1 (M := 1048576) (by omega)) (delta_dt (d := x.2) h2 (M := 1048576) (by omega)) (by omega) (by omega)).some
theorem dsums_math (x : TD [tyDelta, tyDelta, tyRat]) (hw : wfDs (encT [tyDelta, tyDelta, tyRat] x)) (hm : massDs (encT [tyDelta, tyDelta, tyRat] x) ≤ 1048576) : ∃ k, law05_DeltaSums.f k x.1 x.2.1 x.2.2 = some true := by
  obtain ⟨h1, h2, h3, _⟩ := hw
  have hm' : tyDelta.mass x.1 + (tyDelta.mass x.2.1 + (tyRat.mass x.2.2 + 0)) ≤ 1048576 := hm
  exact (dsums_ev (delta_dt (d := x.1) h1 (M := 1048576) (by omega)) (delta_dt (d := x.2.1) h2 (M := 1048576) (by omega)) (rat_rt (r := x.2.2) h3 (M := 1048576) (by omega)) (by omega) (by omega)).some
theorem dspace_math (x : TD [tyDelta, tyDelta, tyRat]) (hw : wfDs (encT [tyDelta, tyDelta, tyRat] x)) (hm : massDs (encT [tyDelta, tyDelta, tyRat] x) ≤ 1048576) : ∃ k, law05_DeltaSpace.f k x.1 x.2.1 x.2.2 = some true := by
  obtain ⟨h1, h2, h3, _⟩ := hw
  have hm' : tyDelta.mass x.1 + (tyDelta.mass x.2.1 + (tyRat.mass x.2.2 + 0)) ≤ 1048576 := hm
  exact (dspace_ev (delta_dt (d := x.1) h1 (M := 1048576) (by omega)) (delta_dt (d := x.2.1) h2 (M := 1048576) (by omega)) (rat_rt (r := x.2.2) h3 (M := 1048576) (by omega)) (by omega) (by omega)).some

end Go.FK
