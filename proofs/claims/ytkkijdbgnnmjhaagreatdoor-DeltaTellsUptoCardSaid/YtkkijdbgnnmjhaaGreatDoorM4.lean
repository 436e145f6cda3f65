
/- The plain law of Delta: twins, the fixed question, sums; Norms, Sums, Space. -/
import Derived.Test.YtkkijdbgnnmjhaaGreatDoorM3
namespace Go.FK

abbrev DD := RR × RR
structure Dt (M : Nat) (d : DD) (p q : Rat) : Prop where
  a : Rt M d.1 p
  b : Rt M d.2 q
def dlt (p q : Rat) : DD := (rat p, rat q)
def noDelta : DD := (noRat, noRat)

variable {M : Nat} {d e : DD} {p q s t c : Rat} {r : RR}

theorem Dt.of (hp : LQ p ≤ M) (hq : LQ q ≤ M) : Dt M (dlt p q) p q := ⟨Rt.of hp, Rt.of hq⟩
theorem Dt.mono {M' : Nat} (h : Dt M d p q) (hM : M ≤ M') : Dt M' d p q := ⟨h.a.mono hM, h.b.mono hM⟩

theorem Rt.rat5 (h : Rt M r q) (hM : M ≤ 70368744177664) : Ev (fun k => law05_rat.f k r) r := by
  have h1 := h.nlen
  have h2 := h.dlen
  unfold law05_rat.f law05_rat.e
  exact Ev.bind (law05_nat_ev r.1.2 (by omega)) (Ev.bind (law05_nat_ev r.2 (by omega)) Ev.pure)
theorem Dt.twin (h : Dt M d p q) (hM : M ≤ 70368744177664) : Ev (fun k => law05_twin.f k d) d := by
  unfold law05_twin.f law05_twin.e
  exact Ev.bind (h.a.rat5 hM) (Ev.bind (h.b.rat5 hM) Ev.pure)

theorem same3 (h : LQ q ≤ M) (hM : M ≤ 35184372088832) : Ev (fun k => ref03_Same.f k (rat q) (rat q)) true := by
  have h1 := LQ_num q
  have h2 := LQ_den q
  have := r3Same_ev (rat q) (rat q) (by show L q.num.natAbs ≤ _; unfold LZ at h1; omega) (by show L q.den ≤ _; omega)
  rw [dec_t rfl] at this
  exact this
theorem same5 (hp : LQ p ≤ M) (hq : LQ q ≤ M) (hM : M ≤ 35184372088832) : Ev (fun k => law05_same.f k (dlt p q) (dlt p q)) true := by
  unfold law05_same.f law05_same.e ref05_Same.f ref05_Same.e
  exact Ev.bind (Ev.bind (same3 hp hM) (Ev.tru rfl (Ev.bind (same3 hq hM) Ev.pure))) Ev.pure
theorem same5' (e1 : p = s) (e2 : q = t) (hp : LQ p ≤ M) (hq : LQ q ≤ M) (hM : M ≤ 35184372088832) : Ev (fun k => law05_same.f k (dlt p q) (dlt s t)) true := by
  subst e1; subst e2; exact same5 hp hq hM

theorem lives_at (n : Nat) : law05_lives.f (n + 128) () = some true := by kernel_rfl
theorem lives_ev : Ev (fun k => law05_lives.f k ()) true := ⟨128, fun k hk => by
  obtain ⟨n, rfl⟩ : ∃ n, k = n + 128 := ⟨k - 128, by omega⟩
  exact lives_at n⟩

/-! ### The operations -/
theorem Dt.norm (h : Dt M d p q) (hM : M ≤ 17592186044415) : Ev (fun k => delta_Norm.f k d) (dlt p q) := by
  unfold delta_Norm.f delta_Norm.e
  exact Ev.bind (h.a.norm hM) (Ev.bind (h.b.norm hM) Ev.pure)
theorem noRat_rt : Rt 0 noRat 0 := ⟨Lim.nil, Lim.nil, Nat.le_refl _, Nat.le_refl _, by decide +kernel⟩
def dsg (p q : Rat) : Int := if p.num.sign = 0 then q.num.sign else p.num.sign
def dcm (p q s t : Rat) : Int := if qs p s = 0 then qs q t else qs p s
theorem dsg_cases (p q : Rat) : dsg p q = -1 ∨ dsg p q = 0 ∨ dsg p q = 1 := by
  unfold dsg; split; exact sign_cases _; exact sign_cases _
theorem dcm_cases (p q s t : Rat) : dcm p q s t = -1 ∨ dcm p q s t = 0 ∨ dcm p q s t = 1 := by
  unfold dcm; split; exact qs_cases _ _; exact qs_cases _ _
theorem Dt.cmp (h : Dt M d p q) (g : Dt M e s t) (h1 : 1 ≤ M) (hM : M ≤ 1099511627775) : Ev (fun k => delta_Cmp.f k d e) (dcm p q s t) := by
  unfold delta_Cmp.f delta_Cmp.e dcm
  refine Ev.bind (h.a.cmp g.a h1 hM) ?_
  by_cases h0 : qs p s = 0
  · rw [if_pos h0]
    exact Ev.fls (by rw [decide_eq_true h0]; rfl) (Ev.bind (h.b.cmp g.b h1 hM) Ev.pure)
  · rw [if_neg h0]
    exact Ev.tru (by rw [decide_eq_false h0]; rfl) Ev.pure
theorem Dt.at (h : Dt M d p q) (hr : Rt M r c) (h1 : 1 ≤ M) (hM : M ≤ 100000000000) : Ev (fun k => delta_At.f k d r) (rat (p + q * c)) := by
  unfold delta_At.f delta_At.e
  have l1 := LQ_mul q c
  have a2 := h.b.LQ h1
  have a3 := hr.LQ h1
  exact Ev.bind (h.b.mul hr h1 (by omega)) (Ev.bind ((h.a.mono (M' := 9 * M) (by omega)).add (Rt.of (by omega)) (by omega) (by omega)) Ev.pure)
/-! ### Norms, Sums -/
/-! ### Space -/
theorem dcm_anti (p q s t : Rat) : dcm s t p q = - dcm p q s t := by
  unfold dcm
  rw [qs_anti p s, qs_anti q t]
  by_cases h : qs p s = 0
  · rw [if_pos h, if_pos (by omega)]
  · rw [if_neg h, if_neg (by omega)]
theorem dcm_add (p q s t x y : Rat) : dcm (p + x) (q + y) (s + x) (t + y) = dcm p q s t := by
  unfold dcm
  rw [qs_add_right, qs_add_right]
theorem dcm_scale (p q s t c : Rat) : dcm (c * p) (c * q) (c * s) (c * t) = dcm p q s t * c.num.sign := by
  unfold dcm
  rw [Rat.mul_comm c p, Rat.mul_comm c q, Rat.mul_comm c s, Rat.mul_comm c t, qs_mul_right, qs_mul_right]
  by_cases h : qs p s = 0
  · rw [if_pos h, if_pos (by rw [h]; simp)]
  · rw [if_neg h]
    by_cases h2 : c.num.sign = 0
    · rw [h2]; simp
    · rw [if_neg (by intro h3; rcases Int.mul_eq_zero.1 h3 with h4 | h4; exact h h4; exact h2 h4)]

/-! ### The statements -/
abbrev tyDelta : Ty := .st (.pair tyRat tyRat)
theorem delta_dt {d : DD} (h : tyDelta.wf d) {M : Nat} (hM : tyDelta.mass d ≤ M) : Dt M d (Qv d.1) (Qv d.2) := by
  have h1 : tyRat.wf d.1 := h.1
  have h2 : tyRat.wf d.2 := h.2
  have hm : tyDelta.mass d = tyRat.mass d.1 + tyRat.mass d.2 := rfl
  exact ⟨rat_rt h1 (by omega), rat_rt h2 (by omega)⟩
end Go.FK
