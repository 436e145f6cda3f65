/- The plain law: RatioQuotients and RatioSums. -/
import Derived.Test.YtiacmfebhoodnaaM2
import Derived.Test.YtiacmfebhoodnaaF3
namespace Go.FK

abbrev tyNat : Ty := .list (.int .u32)
abbrev tyInt : Ty := .st (.pair .bool tyNat)
abbrev tyRat : Ty := .st (.pair tyInt tyNat)

theorem nat_wf {a : List Int} (h : tyNat.wf a) : Lim a := by
  intro x hx
  have h2 : IntKind.u32.min ≤ x ∧ x ≤ IntKind.u32.max := h.2 x hx
  have e1 : IntKind.u32.min = 0 := by decide
  have e2 : IntKind.u32.max = 4294967295 := by decide
  rw [e1, e2] at h2
  simp only [B]
  omega
theorem nat_mass (a : List Int) : tyNat.mass a = a.length + 1 := by
  have : ∀ l : List Int, (l.map fun _ => 1).sum = l.length := by
    intro l
    induction l with
    | nil => rfl
    | cons x xs ih => simp only [List.map_cons, List.sum_cons, ih, List.length_cons]; omega
  show (a.map fun _ => 1).sum + 1 = _
  rw [this]
theorem rat_rt {r : RR} (h : tyRat.wf r) {M : Nat} (hM : tyRat.mass r ≤ M) : Rt M r (Qv r) := by
  have h1 : tyNat.wf r.1.2 := h.1.2
  have h2 : tyNat.wf r.2 := h.2
  have hm : tyRat.mass r = (1 + tyNat.mass r.1.2) + tyNat.mass r.2 := rfl
  rw [nat_mass, nat_mass] at hm
  exact ⟨nat_wf h1, nat_wf h2, by omega, by omega, rfl⟩

theorem Rt.twin {M : Nat} {r : RR} {q : Rat} (h : Rt M r q) (hM : M ≤ 70368744177664) : Ev (fun k => law03_twin.f k r) r := by
  have h1 := h.nlen
  have h2 := h.dlen
  have hw : Ev (fun k => law03_whole.f k r.1) r.1 := by
    unfold law03_whole.f law03_whole.e
    exact Ev.bind (law03_nat_ev r.1.2 (by omega)) Ev.pure
  unfold law03_twin.f law03_twin.e
  exact Ev.bind hw (Ev.bind (law03_nat_ev r.2 (by omega)) Ev.pure)

theorem same_rat {M : Nat} {q : Rat} (h : LQ q ≤ M) (hM : M ≤ 35184372088832) : Ev (fun k => law03_same.f k (rat q) (rat q)) true := by
  unfold law03_same.f law03_same.e
  have h1 := LQ_num q
  have h2 := LQ_den q
  have := r3Same_ev (rat q) (rat q) (by show L q.num.natAbs ≤ _; unfold LZ at h1; omega) (by show L q.den ≤ _; omega)
  rw [dec_t rfl] at this
  exact Ev.bind this Ev.pure
theorem none_noRat : Ev (fun k => law03_none.f k noRat) true := by
  unfold law03_none.f law03_none.e noRat
  exact Ev.tru rfl (Ev.tru (by simp) Ev.pure)

theorem half_rt {M : Nat} (hM : 1 ≤ M) : Rt M ((false, [1]), [2]) (mkRat 1 2) := by
  refine ⟨Lim.mk (by simp [B]) Lim.nil, Lim.mk (by simp [B]) Lim.nil, by simpa using hM, by simpa using hM, ?_⟩
  unfold Qv Zv
  simp [V]

theorem quotients_p19 (x : RR) : Ev (fun k => law03_RatioQuotients.p19 k x) true := by
  refine Ev.turn (fun k => law03_RatioQuotients.p19_succ k _) ?_
  unfold law03_RatioQuotients.e19
  have h3 : Rt 10 (rat ((3 : Int) : Rat)) ((3 : Int) : Rat) := Rt.of (by
    unfold LQ LZ; rw [Rat.num_intCast, Rat.den_intCast]
    have := L_small (n := 3) (by omega); have := L_small (n := 1) (by omega)
    show L 3 + L 1 ≤ 10; omega)
  have h6 : Rt 10 (rat ((6 : Int) : Rat)) ((6 : Int) : Rat) := Rt.of (by
    unfold LQ LZ; rw [Rat.num_intCast, Rat.den_intCast]
    have := L_small (n := 6) (by omega); have := L_small (n := 1) (by omega)
    show L 6 + L 1 ≤ 10; omega)
  refine Ev.bind (whole_Whole_ev (by omega)) (Ev.bind (whole_Whole_ev (by omega)) (Ev.bind (h3.div h6 (by omega) (by omega) (by decide)) (Ev.tru (by simp) ?_)))
  have e : ((3 : Int) : Rat) * ((6 : Int) : Rat)⁻¹ = mkRat 1 2 := by decide +kernel
  rw [e]
  have hh := half_rt (M := 10) (by omega)
  exact Ev.bind (hh.rnorm (by omega)) (Ev.bind (same_rat (M := 100) (Nat.le_trans (hh.LQ (by omega)) (by omega)) (by omega)) Ev.pure)

theorem quotients_p11 {M : Nat} {r s : RR} {p q : Rat} (hr : Rt M r p) (hs : Rt M s q) (h1 : 1 ≤ M) (hM : M ≤ 274877906943) (x y : RR) : Ev (fun k => law03_RatioQuotients.p11 k r s x y) true := by
  refine Ev.turn (fun k => law03_RatioQuotients.p11_succ k _ _ _ _) ?_
  unfold law03_RatioQuotients.e11
  have lp := hr.LQ h1
  have lq := hs.LQ h1
  refine Ev.bind (hr.twin (by omega)) (Ev.bind (hs.twin (by omega)) ?_)
  by_cases h0 : q = 0
  · subst h0
    refine Ev.bind (hr.div_zero hs h1 hM) (Ev.bind (hr.rdiv_zero hs h1 hM) ?_)
    refine Ev.fls (by simp) (Ev.fls (by simp) (Ev.tru (by simp) (Ev.bind none_noRat (Ev.fls (by simp) ?_))))
    exact quotients_p19 _
  · refine Ev.bind (hr.div hs h1 hM h0) (Ev.bind (hr.rdiv hs h1 hM h0) ?_)
    have hL : LQ (p * q⁻¹) ≤ 5 * M := by have := LQ_mul p q⁻¹; have := LQ_inv q; omega
    refine Ev.fls (by simp) (Ev.tru (by simp) (Ev.bind (same_rat hL (by omega)) (Ev.fls (by simp) (Ev.fls (by simp) ?_))))
    exact quotients_p19 _

theorem quotients_ev {M : Nat} {r s : RR} {p q : Rat} (hr : Rt M r p) (hs : Rt M s q) (h1 : 1 ≤ M) (hM : M ≤ 274877906943) : Ev (fun k => law03_RatioQuotients.f k r s) true := by
  unfold law03_RatioQuotients.f law03_RatioQuotients.e
  have lq := hs.LQ h1
  refine Ev.bind (hs.twin (by omega)) ?_
  by_cases h0 : q = 0
  · subst h0
    refine Ev.bind (hs.inv_zero h1 (by omega)) (Ev.bind (hs.rinv_zero h1 (by omega)) ?_)
    refine Ev.fls (by simp) (Ev.fls (by simp) (Ev.tru (by simp) (Ev.bind none_noRat (Ev.fls (by simp) ?_))))
    exact quotients_p11 hr hs h1 hM _ _
  · refine Ev.bind (hs.inv h1 (by omega) h0) (Ev.bind (hs.rinv h1 (by omega) h0) ?_)
    have hL : LQ q⁻¹ ≤ 5 * M := by have := LQ_inv q; omega
    refine Ev.fls (by simp) (Ev.tru (by simp) (Ev.bind (same_rat hL (by omega)) (Ev.fls (by simp) (Ev.fls (by simp) ?_))))
    exact quotients_p11 hr hs h1 hM _ _

theorem LQ_abs (q : Rat) : LQ q.abs = LQ q := by
  rcases Rat.le_total (a := 0) (b := q) with h | h
  · rw [Rat.abs_of_nonneg h]
  · rw [Rat.abs_of_nonpos h, LQ_neg]

theorem sums_ev {M : Nat} {r s : RR} {p q : Rat} (hr : Rt M r p) (hs : Rt M s q) (h1 : 1 ≤ M) (hM : M ≤ 109951162777) : Ev (fun k => law03_RatioSums.f k r s) true := by
  unfold law03_RatioSums.f law03_RatioSums.e
  have lp := hr.LQ h1
  have lq := hs.LQ h1
  have la := LQ_add p q
  have lsb := LQ_sub p q
  have lm := LQ_mul p q
  have t1 := hr.twin (by omega)
  have t2 := hs.twin (by omega)
  refine Ev.bind t1 (Ev.bind t2 (Ev.bind (hr.cmp hs h1 (by omega)) (Ev.bind (hr.rcmp hs h1 (by omega)) (Ev.fls (by simp) ?_))))
  refine Ev.bind t1 (Ev.bind (hr.neg h1 (by omega)) (Ev.bind (hr.rneg h1 (by omega)) (Ev.bind (same_rat (M := 2 * M) (by rw [LQ_neg]; omega) (by omega)) (Ev.fls (by simp) ?_))))
  refine Ev.bind t1 (Ev.bind (hr.abs h1 (by omega)) (Ev.bind (hr.rabs h1 (by omega)) (Ev.bind (same_rat (M := 2 * M) (by rw [LQ_abs]; omega) (by omega)) (Ev.fls (by simp) ?_))))
  refine Ev.bind t1 (Ev.bind t2 (Ev.bind (hr.add hs h1 (by omega)) (Ev.bind (hr.radd hs h1 (by omega)) (Ev.bind (same_rat (M := 9 * M) (by omega) (by omega)) (Ev.tru rfl ?_)))))
  refine Ev.bind t1 (Ev.bind t2 (Ev.bind (hr.sub hs h1 (by omega)) (Ev.bind (hr.rsub hs h1 (by omega)) (Ev.bind (same_rat (M := 9 * M) (by omega) (by omega)) (Ev.tru rfl ?_)))))
  exact Ev.bind t1 (Ev.bind t2 (Ev.bind (hr.mul hs h1 (by omega)) (Ev.bind (hr.rmul hs h1 (by omega)) (Ev.bind (same_rat (M := 9 * M) (by omega) (by omega)) Ev.pure))))

theorem quotients_math (x : TD [tyRat, tyRat]) (hw : wfDs (encT [tyRat, tyRat] x)) (hm : massDs (encT [tyRat, tyRat] x) ≤ 1048576) : ∃ k, law03_RatioQuotients.f k x.1 x.2 = some true := by
  obtain ⟨h1, h2, _⟩ := hw
  have hm' : tyRat.mass x.1 + (tyRat.mass x.2 + 0) ≤ 1048576 := hm
  exact (quotients_ev (rat_rt (r := x.1) h1 (M := 1048576) (by omega)) (rat_rt (r := x.2) h2 (M := 1048576) (by omega)) (by omega) (by omega)).some
theorem sums_math (x : TD [tyRat, tyRat]) (hw : wfDs (encT [tyRat, tyRat] x)) (hm : massDs (encT [tyRat, tyRat] x) ≤ 1048576) : ∃ k, law03_RatioSums.f k x.1 x.2 = some true := by
  obtain ⟨h1, h2, _⟩ := hw
  have hm' : tyRat.mass x.1 + (tyRat.mass x.2 + 0) ≤ 1048576 := hm
  exact (sums_ev (rat_rt (r := x.1) h1 (M := 1048576) (by omega)) (rat_rt (r := x.2) h2 (M := 1048576) (by omega)) (by omega) (by omega)).some

end Go.FK
