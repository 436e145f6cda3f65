
/- The plain law of the second Ratio seat: Floors. -/
import Derived.Test.YtiacmfebhoodnaaDoorM3
namespace Go.FK

/-- Quotient and remainder, cut towards zero. -/
def tq (z : Int) (d : Nat) : Int := if z < 0 then -((z.natAbs / d : Nat) : Int) else ((z.natAbs / d : Nat) : Int)
def tr (z : Int) (d : Nat) : Int := if z < 0 then -((z.natAbs % d : Nat) : Int) else ((z.natAbs % d : Nat) : Int)

theorem tr_natAbs (z : Int) (d : Nat) : (tr z d).natAbs = z.natAbs % d := by unfold tr; generalize z.natAbs % d = n; split <;> omega
theorem tq_natAbs (z : Int) (d : Nat) : (tq z d).natAbs = z.natAbs / d := by unfold tq; generalize z.natAbs / d = n; split <;> omega

theorem floor_eq (z : Int) {d : Nat} (hd : d ≠ 0) : (if tr z d < 0 then tq z d - 1 else tq z d) = z / (d : Int) := by
  have h1 := Nat.div_add_mod z.natAbs d
  have h2 := Nat.mod_lt z.natAbs (by omega : 0 < d)
  have h3 : ((d * (z.natAbs / d) : Nat) : Int) = (d : Int) * ((z.natAbs / d : Nat) : Int) := by rw [Int.natCast_mul]
  symm
  unfold tr tq
  by_cases hz : z < 0
  · simp only [if_pos hz]
    by_cases hr : z.natAbs % d = 0
    · rw [if_neg (by omega)]
      have e : z = (d : Int) * (-((z.natAbs / d : Nat) : Int)) := by rw [Int.mul_neg]; omega
      exact Int.ediv_eq_of_eq_mul_right (by omega) e
    · rw [if_pos (by omega)]
      refine ((Int.ediv_emod_unique (a := z) (b := (d : Int)) (r := (d : Int) - ((z.natAbs % d : Nat) : Int)) (by omega)).2 ⟨?_, by omega, by omega⟩).1
      rw [Int.mul_sub, Int.mul_neg, Int.mul_one]
      omega
  · simp only [if_neg hz]
    rw [if_neg (by omega)]
    exact ((Int.ediv_emod_unique (a := z) (b := (d : Int)) (r := ((z.natAbs % d : Nat) : Int)) (by omega)).2 ⟨by omega, by omega, by omega⟩).1

variable {M : Nat}

theorem LZ_tq (z : Int) (d : Nat) : LZ (tq z d) ≤ LZ z := by unfold LZ; rw [tq_natAbs]; exact L_div _ _
theorem LZ_tr (z : Int) (d : Nat) : LZ (tr z d) ≤ LZ z := by unfold LZ; rw [tr_natAbs]; exact L_mono (Nat.mod_le _ _)

theorem pos_sign {d : Nat} (hd : d ≠ 0) : (d : Int).sign = 1 := Int.sign_eq_one_of_pos (by omega)

theorem quo_ev {a b : Bool × List Int} {z : Int} {d : Nat} (ha : Zt M a z) (hb : Zt M b d) (hd : d ≠ 0) (hM : M ≤ 1000000000000) : Ev (fun k => whole_Quo.f k a b) (int (tq z d), int (tr z d), (0 : Int)) := by
  unfold whole_Quo.f whole_Quo.e
  have hb' : Nt M b.2 d := hb.nt
  have la := ha.LZ
  have n1 : Nt M (lim (z.natAbs / d)) (z.natAbs / d) := Nt.of (Nat.le_trans (L_div _ _) la)
  have n2 : Nt M (lim (z.natAbs % d)) (z.natAbs % d) := Nt.of (Nat.le_trans (L_mono (Nat.mod_le _ _)) la)
  have sa := ha.sign (by omega)
  have sb := hb.sign (by omega)
  have hs := sign_neg_iff z
  have hc := sign_cases z
  refine Ev.bind (ha.nt.div hb' (by omega) hd) (Ev.fls (by simp) (Ev.bind sa (Ev.bind sb ?_)))
  rw [pos_sign hd]
  refine Ev.bind (n1.signed2 (by omega) (z := tq z d) hc (by omega) (tq_natAbs z d).symm ?_) (Ev.bind sa (Ev.bind (n2.signed1 (by omega) (z := tr z d) hc (tr_natAbs z d).symm ?_) Ev.pure))
  · unfold tq; generalize z.natAbs / d = n; split <;> omega
  · unfold tr; generalize z.natAbs % d = n; split <;> omega

theorem one_zt (hM : 1 ≤ M) : Zt M (int 1) 1 := Zt.of (by have : LZ 1 ≤ 1 := L_le (by decide); omega)

theorem floor_ev {a b : Bool × List Int} {z : Int} {d : Nat} (ha : Zt M a z) (hb : Zt M b d) (hd : d ≠ 0) (h1 : 1 ≤ M) (hM : M ≤ 1000000000000) : ∃ r, Ev (fun k => whole_Floor.f k a b) (int (z / (d : Int)), r, (0 : Int)) := by
  have l1 := LZ_tq z d
  have l2 := LZ_tr z d
  have l3 := ha.LZ
  have hq : Zt M (int (tq z d)) (tq z d) := Zt.of (by omega)
  have hr : Zt M (int (tr z d)) (tr z d) := Zt.of (by omega)
  have hs := sign_neg_iff (tr z d)
  have hc := sign_cases (tr z d)
  have hf := floor_eq z hd
  have sb := hb.sign (by omega)
  rw [pos_sign hd] at sb
  unfold whole_Floor.f whole_Floor.e
  by_cases h0 : tr z d < 0
  · rw [if_pos h0] at hf
    refine ⟨int (tr z d + d), Ev.bind (quo_ev ha hb hd hM) (Ev.fls (by simp) (Ev.bind (hr.sign (by omega)) (Ev.bind sb ?_)))⟩
    rw [wrap_i64 (by omega) (by omega), dec_t (by omega)]
    have hmv : Ev (fun k => whole_moved.f k (int (tq z d)) (int (tr z d)) b true) (int (tq z d - 1), int (tr z d + d), (0 : Int)) := by
      unfold whole_moved.f whole_moved.e
      refine Ev.fls rfl (Ev.bind (hr.sign (by omega)) (Ev.bind sb (Ev.fls (dec_f (by omega)) ?_)))
      exact Ev.bind (whole_Of_ev (by omega)) (Ev.bind (hq.sub (one_zt h1) (by omega)) (Ev.bind (hr.add hb (by omega)) Ev.pure))
    rw [hf] at hmv
    exact Ev.bind hmv Ev.pure
  · rw [if_neg h0] at hf
    refine ⟨int (tr z d), Ev.bind (quo_ev ha hb hd hM) (Ev.fls (by simp) (Ev.bind (hr.sign (by omega)) (Ev.bind sb ?_)))⟩
    rw [wrap_i64 (by omega) (by omega), dec_f (by omega)]
    have hmv : Ev (fun k => whole_moved.f k (int (tq z d)) (int (tr z d)) b false) (int (tq z d), int (tr z d), (0 : Int)) := by
      unfold whole_moved.f whole_moved.e
      exact Ev.tru rfl Ev.pure
    exact Ev.bind hmv (Ev.eq (by rw [← hf]))

theorem rquo_ev {z : Int} {d : Nat} (hz : LZ z ≤ M) (hdL : L d ≤ M) (hd : d ≠ 0) (hM : M ≤ 1000000000000) : Ev (fun k => ref02_Quo.f k (int z) (false, lim d)) (int (tq z d), int (tr z d), (0 : Int)) := by
  unfold ref02_Quo.f ref02_Quo.e
  have hb : Nt M (lim d) d := Nt.of hdL
  have ha : Nt M (lim z.natAbs) z.natAbs := Nt.of hz
  have n1 : Nt M (lim (z.natAbs / d)) (z.natAbs / d) := Nt.of (Nat.le_trans (L_div _ _) hz)
  have n2 : Nt M (lim (z.natAbs % d)) (z.natAbs % d) := Nt.of (Nat.le_trans (L_mono (Nat.mod_le _ _)) hz)
  have sb := (Zt.pos hb).rsign (by omega)
  rw [pos_sign hd] at sb
  have e : (!(decide (z < 0) == false)) = decide (z < 0) := by cases decide (z < 0) <;> rfl
  refine Ev.bind sb (Ev.fls (by simp) (Ev.bind (ha.rdiv hb (by omega) hd) ?_))
  show Ev (fun k => Option.bind (ref02_made.f k (!(decide (z < 0) == false)) (lim (z.natAbs / d))) _) _
  rw [e]
  refine Ev.bind (r2made_ev n1 (by omega) (z := tq z d) ?_) (Ev.bind (r2made_ev n2 (by omega) (z := tr z d) ?_) Ev.pure)
  · unfold tq
    by_cases h : z < 0
    · rw [if_pos h, dec_t h, if_pos rfl]
    · rw [if_neg h, dec_f h, if_neg (by simp)]
  · show tr z d = if decide (z < 0) = true then _ else _
    unfold tr
    by_cases h : z < 0
    · rw [if_pos h, dec_t h, if_pos rfl]
    · rw [if_neg h, dec_f h, if_neg (by simp)]

theorem rfloor_ev {z : Int} {d : Nat} (hz : LZ z ≤ M) (hdL : L d ≤ M) (hd : d ≠ 0) (h1 : 1 ≤ M) (hM : M ≤ 1000000000000) : ∃ r, Ev (fun k => ref02_Floor.f k (int z) (false, lim d)) (int (z / (d : Int)), r, (0 : Int)) := by
  have l1 := LZ_tq z d
  have l2 := LZ_tr z d
  have hq : Zt M (int (tq z d)) (tq z d) := Zt.of (by omega)
  have hr : Zt M (int (tr z d)) (tr z d) := Zt.of (by omega)
  have hb : Zt M (false, lim d) d := Zt.pos (Nt.of hdL)
  have hs := sign_neg_iff (tr z d)
  have hc := sign_cases (tr z d)
  have hf := floor_eq z hd
  have sb := hb.rsign (by omega)
  rw [pos_sign hd] at sb
  have sr := hr.rsign (by omega)
  have p9 : ∀ w x (y r : Bool × List Int) (e : Int), Ev (fun k => ref02_Floor.p9 k w x y r e) (y, r, e) := fun w x y r e => Ev.turn (fun k => ref02_Floor.p9_succ k _ _ _ _ _) Ev.pure
  unfold ref02_Floor.f ref02_Floor.e
  by_cases h0 : tr z d < 0
  · rw [if_pos h0] at hf
    rw [← hf]
    refine ⟨int (tr z d + d), Ev.bind (rquo_ev hz hdL hd hM) (Ev.tru (by simp) (Ev.bind sr (Ev.tru (by rw [dec_f (by omega)]; rfl) ?_)))⟩
    refine Ev.bind sr (Ev.bind sb (Ev.tru (by rw [dec_f (by omega)]; rfl) ?_))
    exact Ev.bind (ref02_Of_ev (by omega)) (Ev.bind (hq.rsub (one_zt h1) (by omega)) (Ev.bind (hr.radd hb (by omega)) Ev.pure))
  · rw [if_neg h0] at hf
    rw [← hf]
    refine ⟨int (tr z d), Ev.bind (rquo_ev hz hdL hd hM) (Ev.tru (by simp) (Ev.bind sr ?_))⟩
    by_cases h3 : (tr z d).sign = 0
    · exact Ev.fls (by rw [dec_t h3]; rfl) (p9 _ _ _ _ _)
    · refine Ev.tru (by rw [dec_f h3]; rfl) (Ev.bind sr (Ev.bind sb (Ev.fls (by rw [dec_t (by omega)]; rfl) (p9 _ _ _ _ _))))

theorem sameInt_ev {z : Int} (h : LZ z ≤ 35184372088832) : Ev (fun k => law03_sameInt.f k (int z) (int z)) true := by
  unfold law03_sameInt.f law03_sameInt.e
  have := rSame_ev (lim z.natAbs) (lim z.natAbs) h
  rw [dec_t rfl] at this
  exact Ev.tru (by simp) (Ev.bind this Ev.pure)

variable {r : RR} {q : Rat}
/-- The greatest whole number not above it. -/
def qfloor (q : Rat) : Int := q.num / (q.den : Int)
theorem LZ_qfloor (q : Rat) : LZ (qfloor q) ≤ LQ q + 1 := by
  have := LZ_div q.num q.den
  have := LQ_num q
  unfold qfloor
  omega

theorem Rt.floor (h : Rt M r q) (h1 : 1 ≤ M) (hM : M ≤ 100000000000) : Ev (fun k => ratio_Floor.f k r) (int (qfloor q)) := by
  have l := h.LQ h1
  have l1 := LQ_num q
  have l2 := LQ_den q
  obtain ⟨x, hx⟩ := floor_ev (M := 2 * M) (Zt.of (z := q.num) (by omega)) (Zt.pos (Nt.of (n := q.den) (by omega))) q.den_nz (by omega) (by omega)
  unfold ratio_Floor.f ratio_Floor.e
  exact Ev.bind (h.norm (by omega)) (Ev.bind hx Ev.pure)
theorem Rt.rfloor (h : Rt M r q) (h1 : 1 ≤ M) (hM : M ≤ 100000000000) : Ev (fun k => ref03_Floor.f k r) (int (qfloor q)) := by
  have l := h.LQ h1
  have l1 := LQ_num q
  have l2 := LQ_den q
  obtain ⟨x, hx⟩ := rfloor_ev (M := 2 * M) (z := q.num) (d := q.den) (by omega) (by omega) q.den_nz (by omega) (by omega)
  unfold ref03_Floor.f ref03_Floor.e
  exact Ev.bind (h.rnorm (by omega)) (Ev.bind (Ev.pure : Ev (fun k => ref03_positive.f k (lim q.den)) (false, lim q.den)) (Ev.bind hx Ev.pure))

theorem Rt.ceil (h : Rt M r q) (h1 : 1 ≤ M) (hM : M ≤ 10000000000) : Ev (fun k => ratio_Ceil.f k r) (int (-qfloor (-q))) := by
  have l := h.LQ h1
  have hn : Rt (2 * M) (rat (-q)) (-q) := Rt.of (by rw [LQ_neg]; exact l)
  have lf := LZ_qfloor (-q)
  rw [LQ_neg] at lf
  have hz : Zt (4 * M) (int (qfloor (-q))) (qfloor (-q)) := Zt.of (by omega)
  unfold ratio_Ceil.f ratio_Ceil.e
  exact Ev.bind (h.neg h1 (by omega)) (Ev.bind (hn.floor (by omega) (by omega)) (Ev.bind (hz.neg (by omega)) Ev.pure))
theorem Rt.rceil (h : Rt M r q) (h1 : 1 ≤ M) (hM : M ≤ 10000000000) : Ev (fun k => ref03_Ceil.f k r) (int (-qfloor (-q))) := by
  have l := h.LQ h1
  have hn : Rt (2 * M) (rat (-q)) (-q) := Rt.of (by rw [LQ_neg]; exact l)
  have lf := LZ_qfloor (-q)
  rw [LQ_neg] at lf
  have hz : Zt (4 * M) (int (qfloor (-q))) (qfloor (-q)) := Zt.of (by omega)
  unfold ref03_Ceil.f ref03_Ceil.e
  exact Ev.bind (h.rneg h1 (by omega)) (Ev.bind (hn.rfloor (by omega) (by omega)) (Ev.bind (hz.rneg (by omega)) Ev.pure))

theorem floors_ev (h : Rt M r q) (h1 : 1 ≤ M) (hM : M ≤ 1000000000) : Ev (fun k => law03_RatioFloors.f k r) true := by
  unfold law03_RatioFloors.f law03_RatioFloors.e
  have t := h.twin (by omega)
  have l := h.LQ h1
  have l1 := LZ_qfloor q
  have l2 := LZ_qfloor (-q)
  rw [LQ_neg] at l2
  refine Ev.bind half_ev (Ev.tru rfl (Ev.bind t (Ev.bind (h.floor h1 (by omega)) (Ev.bind (h.rfloor h1 (by omega)) (Ev.bind (sameInt_ev (by omega)) (Ev.tru rfl ?_))))))
  exact Ev.bind t (Ev.bind (h.ceil h1 (by omega)) (Ev.bind (h.rceil h1 (by omega)) (Ev.bind (sameInt_ev (by rw [LZ_neg]; omega)) Ev.pure)))

theorem floors_math (x : TD [tyRat]) (hw : wfDs (encT [tyRat] x)) (hm : massDs (encT [tyRat] x) ≤ 1048576) : ∃ k, law03_RatioFloors.f k x = some true := by
  obtain ⟨h1, _⟩ := hw
  have hm' : tyRat.mass x + 0 ≤ 1048576 := hm
  exact (floors_ev (rat_rt (r := x) h1 (M := 1048576) (by omega)) (by omega) (by omega)).some

end Go.FK
