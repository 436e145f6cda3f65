import Derived.Test.YtllpdchpjhgkgaaGreatDoorM2
import Derived.Test.YtllpdchpjhgkgaaGreatDoorF3

/- The plain law: what comes in, what the laws use. -/
namespace Go.FK

abbrev tyNat : Ty := .list (.int .u32)
abbrev tyInt : Ty := .st (.pair .bool tyNat)
abbrev tyRat : Ty := .st (.pair tyInt tyNat)

theorem nat_wf {a : List Int} (h : tyNat.wf a) : Lim a := by
  intro x hx
  have h2 : IntKind.u32.min ≤ x ∧ x ≤ IntKind.u32.max := h.2 x hx
  have e1 : IntKind.u32.min = 0 := by decide
  have e2 : IntKind.u32.max = 4294967295 := by decide
  rw [e1, e2] at h2
  simp only [B]
  omega
theorem nat_mass (a : List Int) : tyNat.mass a = a.length + 1 := by
  have : ∀ l : List Int, (l.map fun _ => 1).sum = l.length := by
    intro l
    induction l with
    | nil => rfl
    | cons x xs ih => simp only [List.map_cons, List.sum_cons, ih, List.length_cons]; omega
  show (a.map fun _ => 1).sum + 1 = _
  rw [this]
theorem rat_rt {r : RR} (h : tyRat.wf r) {M : Nat} (hM : tyRat.mass r ≤ M) : Rt M r (Qv r) := by
  have h1 : tyNat.wf r.1.2 := h.1.2
  have h2 : tyNat.wf r.2 := h.2
  have hm : tyRat.mass r = (1 + tyNat.mass r.1.2) + tyNat.mass r.2 := rfl
  rw [nat_mass, nat_mass] at hm
  exact ⟨nat_wf h1, nat_wf h2, by omega, by omega, rfl⟩

theorem Rt.twin {M : Nat} {r : RR} {q : Rat} (h : Rt M r q) (hM : M ≤ 70368744177664) : Ev (fun k => law03_twin.f k r) r := by
  have h1 := h.nlen
  have h2 := h.dlen
  have hw : Ev (fun k => law03_whole.f k r.1) r.1 := by
    unfold law03_whole.f law03_whole.e
    exact Ev.bind (law03_nat_ev r.1.2 (by omega)) Ev.pure
  unfold law03_twin.f law03_twin.e
  exact Ev.bind hw (Ev.bind (law03_nat_ev r.2 (by omega)) Ev.pure)

theorem LQ_abs (q : Rat) : LQ q.abs = LQ q := by
  rcases Rat.le_total (a := 0) (b := q) with h | h
  · rw [Rat.abs_of_nonneg h]
  · rw [Rat.abs_of_nonpos h, LQ_neg]

end Go.FK


/- The plain law of the second Ratio seat: the small fixed question; Norms, Field. -/
namespace Go.FK

theorem half_at (n : Nat) : law03_half.f (n + 64) () = some true := by kernel_rfl
theorem half_ev : Ev (fun k => law03_half.f k ()) true := ⟨64, fun k hk => by
  obtain ⟨n, rfl⟩ : ∃ n, k = n + 64 := ⟨k - 64, by omega⟩
  exact half_at n⟩

theorem Ev.eq {α : Type} {r s : α} (h : r = s) : Ev (fun _ => Option.some r) s := h ▸ Ev.pure

theorem Zt.twin {M : Nat} {a : Bool × List Int} {z : Int} (h : Zt M a z) (hM : M ≤ 70368744177664) : Ev (fun k => law03_whole.f k a) a := by
  have h1 := h.len
  unfold law03_whole.f law03_whole.e
  exact Ev.bind (law03_nat_ev a.2 (by omega)) Ev.pure
/-! ### The reference's whole ratio of a small number -/
theorem ref01_Of_ev {n : Int} (h : 0 ≤ n ∧ n < 18446744073709551616) : Ev (fun k => ref01_Of.f k n) (lim n.toNat) := by
  unfold ref01_Of.f ref01_Of.e
  have e1 : IntKind.u32.wrap n = n % 4294967296 := wrap_u32 n
  have e2 : IntKind.u32.wrap (Int.fdiv n (2 ^ 32)) = n / 4294967296 := by
    rw [Int.fdiv_eq_ediv_of_nonneg _ (by omega), wrap_u32]; omega
  rw [e1, e2]
  have o : Nt 2 [n % 4294967296, n / 4294967296] n.toNat := ⟨Lim.mk (by simp only [B]; omega) (Lim.mk (by simp only [B]; omega) Lim.nil), by simp only [V, B]; omega, by simp⟩
  exact Ev.bind (o.rNorm (by omega)) Ev.pure

theorem ref02_Of_ev {n : Int} (h : -9223372036854775808 ≤ n ∧ n ≤ 9223372036854775807) : Ev (fun k => ref02_Of.f k n) (int n) := by
  unfold ref02_Of.f ref02_Of.e
  have hL : L n.natAbs ≤ 2 := L_le (by omega)
  have n1 : Nt 2 (lim n.natAbs) n.natAbs := Nt.of hL
  by_cases h0 : n < 0
  · have e1 : IntKind.u64.wrap (0 - IntKind.u64.wrap n) = -n := by simp only [wrap_u64]; omega
    rw [e1]
    have e2 : (-n).toNat = n.natAbs := by omega
    have := ref01_Of_ev (n := -n) (by omega)
    rw [e2] at this
    exact Ev.tru (dec_t h0) (Ev.bind this (Ev.bind (r2made_ev n1 (by omega) (by rw [if_pos rfl]; omega)) Ev.pure))
  · have e1 : IntKind.u64.wrap n = n := wrap_u64_id (by omega) (by omega)
    rw [e1]
    have e2 : n.toNat = n.natAbs := by omega
    have := ref01_Of_ev (n := n) (by omega)
    rw [e2] at this
    exact Ev.fls (dec_f h0) (Ev.bind this (Ev.bind (r2made_ev n1 (by omega) (by rw [if_neg (by simp)]; omega)) Ev.pure))

/-! ### Norms -/
end Go.FK


/- The plain law of the second Ratio seat: Floors. -/
namespace Go.FK

/-- Quotient and remainder, cut towards zero. -/
def tq (z : Int) (d : Nat) : Int := if z < 0 then -((z.natAbs / d : Nat) : Int) else ((z.natAbs / d : Nat) : Int)
def tr (z : Int) (d : Nat) : Int := if z < 0 then -((z.natAbs % d : Nat) : Int) else ((z.natAbs % d : Nat) : Int)

theorem tr_natAbs (z : Int) (d : Nat) : (tr z d).natAbs = z.natAbs % d := by unfold tr; generalize z.natAbs % d = n; split <;> omega
theorem tq_natAbs (z : Int) (d : Nat) : (tq z d).natAbs = z.natAbs / d := by unfold tq; generalize z.natAbs / d = n; split <;> omega

theorem floor_eq (z : Int) {d : Nat} (hd : d ≠ 0) : (if tr z d < 0 then tq z d - 1 else tq z d) = z / (d : Int) := by
  have h1 := Nat.div_add_mod z.natAbs d
  have h2 := Nat.mod_lt z.natAbs (by omega : 0 < d)
  have h3 : ((d * (z.natAbs / d) : Nat) : Int) = (d : Int) * ((z.natAbs / d : Nat) : Int) := by rw [Int.natCast_mul]
  symm
  unfold tr tq
  by_cases hz : z < 0
  · simp only [if_pos hz]
    by_cases hr : z.natAbs % d = 0
    · rw [if_neg (by omega)]
      have e : z = (d : Int) * (-((z.natAbs / d : Nat) : Int)) := by rw [Int.mul_neg]; omega
      exact Int.ediv_eq_of_eq_mul_right (by omega) e
    · rw [if_pos (by omega)]
      refine ((Int.ediv_emod_unique (a := z) (b := (d : Int)) (r := (d : Int) - ((z.natAbs % d : Nat) : Int)) (by omega)).2 ⟨?_, by omega, by omega⟩).1
      rw [Int.mul_sub, Int.mul_neg, Int.mul_one]
      omega
  · simp only [if_neg hz]
    rw [if_neg (by omega)]
    exact ((Int.ediv_emod_unique (a := z) (b := (d : Int)) (r := ((z.natAbs % d : Nat) : Int)) (by omega)).2 ⟨by omega, by omega, by omega⟩).1

variable {M : Nat}

theorem LZ_tq (z : Int) (d : Nat) : LZ (tq z d) ≤ LZ z := by unfold LZ; rw [tq_natAbs]; exact L_div _ _
theorem LZ_tr (z : Int) (d : Nat) : LZ (tr z d) ≤ LZ z := by unfold LZ; rw [tr_natAbs]; exact L_mono (Nat.mod_le _ _)

theorem pos_sign {d : Nat} (hd : d ≠ 0) : (d : Int).sign = 1 := Int.sign_eq_one_of_pos (by omega)

theorem quo_ev {a b : Bool × List Int} {z : Int} {d : Nat} (ha : Zt M a z) (hb : Zt M b d) (hd : d ≠ 0) (hM : M ≤ 1000000000000) : Ev (fun k => whole_Quo.f k a b) (int (tq z d), int (tr z d), (0 : Int)) := by
  unfold whole_Quo.f whole_Quo.e
  have hb' : Nt M b.2 d := hb.nt
  have la := ha.LZ
  have n1 : Nt M (lim (z.natAbs / d)) (z.natAbs / d) := Nt.of (Nat.le_trans (L_div _ _) la)
  have n2 : Nt M (lim (z.natAbs % d)) (z.natAbs % d) := Nt.of (Nat.le_trans (L_mono (Nat.mod_le _ _)) la)
  have sa := ha.sign (by omega)
  have sb := hb.sign (by omega)
  have hs := sign_neg_iff z
  have hc := sign_cases z
  refine Ev.bind (ha.nt.div hb' (by omega) hd) (Ev.fls (by simp) (Ev.bind sa (Ev.bind sb ?_)))
  rw [pos_sign hd]
  refine Ev.bind (n1.signed2 (by omega) (z := tq z d) hc (by omega) (tq_natAbs z d).symm ?_) (Ev.bind sa (Ev.bind (n2.signed1 (by omega) (z := tr z d) hc (tr_natAbs z d).symm ?_) Ev.pure))
  · unfold tq; generalize z.natAbs / d = n; split <;> omega
  · unfold tr; generalize z.natAbs % d = n; split <;> omega

theorem one_zt (hM : 1 ≤ M) : Zt M (int 1) 1 := Zt.of (by have : LZ 1 ≤ 1 := L_le (by decide); omega)

theorem floor_ev {a b : Bool × List Int} {z : Int} {d : Nat} (ha : Zt M a z) (hb : Zt M b d) (hd : d ≠ 0) (h1 : 1 ≤ M) (hM : M ≤ 1000000000000) : ∃ r, Ev (fun k => whole_Floor.f k a b) (int (z / (d : Int)), r, (0 : Int)) := by
  have l1 := LZ_tq z d
  have l2 := LZ_tr z d
  have l3 := ha.LZ
  have hq : Zt M (int (tq z d)) (tq z d) := Zt.of (by omega)
  have hr : Zt M (int (tr z d)) (tr z d) := Zt.of (by omega)
  have hs := sign_neg_iff (tr z d)
  have hc := sign_cases (tr z d)
  have hf := floor_eq z hd
  have sb := hb.sign (by omega)
  rw [pos_sign hd] at sb
  unfold whole_Floor.f whole_Floor.e
  by_cases h0 : tr z d < 0
  · rw [if_pos h0] at hf
    refine ⟨int (tr z d + d), Ev.bind (quo_ev ha hb hd hM) (Ev.fls (by simp) (Ev.bind (hr.sign (by omega)) (Ev.bind sb ?_)))⟩
    rw [wrap_i64 (by omega) (by omega), dec_t (by omega)]
    have hmv : Ev (fun k => whole_moved.f k (int (tq z d)) (int (tr z d)) b true) (int (tq z d - 1), int (tr z d + d), (0 : Int)) := by
      unfold whole_moved.f whole_moved.e
      refine Ev.fls rfl (Ev.bind (hr.sign (by omega)) (Ev.bind sb (Ev.fls (dec_f (by omega)) ?_)))
      exact Ev.bind (whole_Of_ev (by omega)) (Ev.bind (hq.sub (one_zt h1) (by omega)) (Ev.bind (hr.add hb (by omega)) Ev.pure))
    rw [hf] at hmv
    exact Ev.bind hmv Ev.pure
  · rw [if_neg h0] at hf
    refine ⟨int (tr z d), Ev.bind (quo_ev ha hb hd hM) (Ev.fls (by simp) (Ev.bind (hr.sign (by omega)) (Ev.bind sb ?_)))⟩
    rw [wrap_i64 (by omega) (by omega), dec_f (by omega)]
    have hmv : Ev (fun k => whole_moved.f k (int (tq z d)) (int (tr z d)) b false) (int (tq z d), int (tr z d), (0 : Int)) := by
      unfold whole_moved.f whole_moved.e
      exact Ev.tru rfl Ev.pure
    exact Ev.bind hmv (Ev.eq (by rw [← hf]))

theorem rquo_ev {z : Int} {d : Nat} (hz : LZ z ≤ M) (hdL : L d ≤ M) (hd : d ≠ 0) (hM : M ≤ 1000000000000) : Ev (fun k => ref02_Quo.f k (int z) (false, lim d)) (int (tq z d), int (tr z d), (0 : Int)) := by
  unfold ref02_Quo.f ref02_Quo.e
  have hb : Nt M (lim d) d := Nt.of hdL
  have ha : Nt M (lim z.natAbs) z.natAbs := Nt.of hz
  have n1 : Nt M (lim (z.natAbs / d)) (z.natAbs / d) := Nt.of (Nat.le_trans (L_div _ _) hz)
  have n2 : Nt M (lim (z.natAbs % d)) (z.natAbs % d) := Nt.of (Nat.le_trans (L_mono (Nat.mod_le _ _)) hz)
  have sb := (Zt.pos hb).rsign (by omega)
  rw [pos_sign hd] at sb
  have e : (!(decide (z < 0) == false)) = decide (z < 0) := by cases decide (z < 0) <;> rfl
  refine Ev.bind sb (Ev.fls (by simp) (Ev.bind (ha.rdiv hb (by omega) hd) ?_))
  show Ev (fun k => Option.bind (ref02_made.f k (!(decide (z < 0) == false)) (lim (z.natAbs / d))) _) _
  rw [e]
  refine Ev.bind (r2made_ev n1 (by omega) (z := tq z d) ?_) (Ev.bind (r2made_ev n2 (by omega) (z := tr z d) ?_) Ev.pure)
  · unfold tq
    by_cases h : z < 0
    · rw [if_pos h, dec_t h, if_pos rfl]
    · rw [if_neg h, dec_f h, if_neg (by simp)]
  · show tr z d = if decide (z < 0) = true then _ else _
    unfold tr
    by_cases h : z < 0
    · rw [if_pos h, dec_t h, if_pos rfl]
    · rw [if_neg h, dec_f h, if_neg (by simp)]

theorem rfloor_ev {z : Int} {d : Nat} (hz : LZ z ≤ M) (hdL : L d ≤ M) (hd : d ≠ 0) (h1 : 1 ≤ M) (hM : M ≤ 1000000000000) : ∃ r, Ev (fun k => ref02_Floor.f k (int z) (false, lim d)) (int (z / (d : Int)), r, (0 : Int)) := by
  have l1 := LZ_tq z d
  have l2 := LZ_tr z d
  have hq : Zt M (int (tq z d)) (tq z d) := Zt.of (by omega)
  have hr : Zt M (int (tr z d)) (tr z d) := Zt.of (by omega)
  have hb : Zt M (false, lim d) d := Zt.pos (Nt.of hdL)
  have hs := sign_neg_iff (tr z d)
  have hc := sign_cases (tr z d)
  have hf := floor_eq z hd
  have sb := hb.rsign (by omega)
  rw [pos_sign hd] at sb
  have sr := hr.rsign (by omega)
  have p9 : ∀ w x (y r : Bool × List Int) (e : Int), Ev (fun k => ref02_Floor.p9 k w x y r e) (y, r, e) := fun w x y r e => Ev.turn (fun k => ref02_Floor.p9_succ k _ _ _ _ _) Ev.pure
  unfold ref02_Floor.f ref02_Floor.e
  by_cases h0 : tr z d < 0
  · rw [if_pos h0] at hf
    rw [← hf]
    refine ⟨int (tr z d + d), Ev.bind (rquo_ev hz hdL hd hM) (Ev.tru (by simp) (Ev.bind sr (Ev.tru (by rw [dec_f (by omega)]; rfl) ?_)))⟩
    refine Ev.bind sr (Ev.bind sb (Ev.tru (by rw [dec_f (by omega)]; rfl) ?_))
    exact Ev.bind (ref02_Of_ev (by omega)) (Ev.bind (hq.rsub (one_zt h1) (by omega)) (Ev.bind (hr.radd hb (by omega)) Ev.pure))
  · rw [if_neg h0] at hf
    rw [← hf]
    refine ⟨int (tr z d), Ev.bind (rquo_ev hz hdL hd hM) (Ev.tru (by simp) (Ev.bind sr ?_))⟩
    by_cases h3 : (tr z d).sign = 0
    · exact Ev.fls (by rw [dec_t h3]; rfl) (p9 _ _ _ _ _)
    · refine Ev.tru (by rw [dec_f h3]; rfl) (Ev.bind sr (Ev.bind sb (Ev.fls (by rw [dec_t (by omega)]; rfl) (p9 _ _ _ _ _))))

variable {r : RR} {q : Rat}
/-- The greatest whole number not above it. -/
def qfloor (q : Rat) : Int := q.num / (q.den : Int)
theorem Rt.floor (h : Rt M r q) (h1 : 1 ≤ M) (hM : M ≤ 100000000000) : Ev (fun k => ratio_Floor.f k r) (int (qfloor q)) := by
  have l := h.LQ h1
  have l1 := LQ_num q
  have l2 := LQ_den q
  obtain ⟨x, hx⟩ := floor_ev (M := 2 * M) (Zt.of (z := q.num) (by omega)) (Zt.pos (Nt.of (n := q.den) (by omega))) q.den_nz (by omega) (by omega)
  unfold ratio_Floor.f ratio_Floor.e
  exact Ev.bind (h.norm (by omega)) (Ev.bind hx Ev.pure)
theorem Rt.rfloor (h : Rt M r q) (h1 : 1 ≤ M) (hM : M ≤ 100000000000) : Ev (fun k => ref03_Floor.f k r) (int (qfloor q)) := by
  have l := h.LQ h1
  have l1 := LQ_num q
  have l2 := LQ_den q
  obtain ⟨x, hx⟩ := rfloor_ev (M := 2 * M) (z := q.num) (d := q.den) (by omega) (by omega) q.den_nz (by omega) (by omega)
  unfold ref03_Floor.f ref03_Floor.e
  exact Ev.bind (h.rnorm (by omega)) (Ev.bind (Ev.pure : Ev (fun k => ref03_positive.f k (lim q.den)) (false, lim q.den)) (Ev.bind hx Ev.pure))

end Go.FK


/- Rational numbers by their parts. -/
namespace Go.FK
/-! ### Rational numbers by their parts -/
theorem qfloor_eq (q : Rat) : qfloor q = q.floor := (Rat.floor_def q).symm
theorem qfloor_le (q : Rat) : (qfloor q : Rat) ≤ q := by rw [qfloor_eq]; exact Rat.floor_le q
theorem lt_qfloor (q : Rat) : q < (qfloor q : Rat) + 1 := by
  have h := Rat.lt_floor_add_one q
  rw [Rat.intCast_add] at h
  rw [qfloor_eq]; exact h
theorem le_qfloor {n : Int} {q : Rat} : n ≤ qfloor q ↔ (n : Rat) ≤ q := by rw [qfloor_eq]; exact Rat.le_floor_iff
theorem sub_int_parts (x : Rat) (n : Int) : (x - (n : Rat)).num = x.num - n * x.den ∧ (x - (n : Rat)).den = x.den := by
  have hc : (x.num - n * x.den).natAbs.Coprime x.den := by
    have h : Int.gcd (x.num - n * x.den) x.den = Int.gcd x.num x.den := Int.gcd_sub_mul_right_left _ _ _
    have h2 : Int.gcd x.num x.den = 1 := x.reduced
    rw [h2] at h
    exact h
  have e : x - (n : Rat) = ⟨x.num - n * x.den, x.den, x.den_nz, hc⟩ := by
    rw [Rat.mk_eq_mkRat, Rat.sub_def']
    simp
  rw [e]
  exact ⟨rfl, rfl⟩
theorem num_pos {x : Rat} (h : 0 < x) : 0 < x.num := by
  have := (Rat.lt_iff 0 x).1 h
  simpa using this
theorem inv_parts {x : Rat} (h : 0 < x) : x⁻¹.num = x.den ∧ (x⁻¹.den : Int) = x.num := by
  have := num_pos h
  rw [Rat.num_inv, Rat.den_inv, if_neg (by omega), Int.sign_eq_one_of_pos this]
  omega
theorem inv_lt {a b : Rat} (ha : 0 < a) (hb : 0 < b) : a⁻¹ < b⁻¹ ↔ b < a := by
  have h1 := inv_parts ha
  have h2 := inv_parts hb
  rw [Rat.lt_iff, Rat.lt_iff, h1.1, h1.2, h2.1, h2.2, Int.mul_comm (a.den : Int), Int.mul_comm (b.den : Int)]
end Go.FK


/- The plain law: RatioFractions. A number's parts. -/
namespace Go.FK
/-- What is left of a number above the greatest whole number below it. -/
def fr (q : Rat) : Rat := q - (qfloor q : Rat)
/-- A number's parts, at most b + 1 of them. -/
def cfB : Nat → Rat → List Int
  | 0, q => [qfloor q]
  | b + 1, q => if fr q = 0 then [qfloor q] else qfloor q :: cfB b (fr q)⁻¹
/-- b + 1 parts are enough. -/
def Few (b : Nat) (q : Rat) : Prop := q.num % q.den * q.den < 2 ^ b
/-- The sizes. -/
def Sz (M : Nat) (q : Rat) : Prop := LZ q.num ≤ M ∧ L q.den ≤ M

theorem fr_parts (q : Rat) : (fr q).num = q.num % q.den ∧ (fr q).den = q.den := by
  have h := sub_int_parts q (qfloor q)
  refine ⟨?_, h.2⟩
  unfold fr
  rw [h.1]
  unfold qfloor
  have := Int.mul_ediv_add_emod q.num q.den
  rw [Int.mul_comm] at this
  omega
theorem den_pos (q : Rat) : (0 : Int) < q.den := by have := q.den_nz; omega
theorem fr_nonneg (q : Rat) : 0 ≤ fr q := by have := qfloor_le q; unfold fr; grind
theorem fr_lt_one (q : Rat) : fr q < 1 := by have := lt_qfloor q; unfold fr; grind
theorem fr_pos {q : Rat} (h : fr q ≠ 0) : 0 < fr q := by have := fr_nonneg q; grind
theorem fr_zero_iff (q : Rat) : fr q = 0 ↔ q.num % q.den = 0 := by
  have h := fr_parts q
  rw [← h.1, Rat.num_eq_zero]
theorem next_parts {q : Rat} (h : fr q ≠ 0) : ((fr q)⁻¹).num = q.den ∧ (((fr q)⁻¹).den : Int) = q.num % q.den := by
  have h1 := fr_parts q
  have h2 := inv_parts (fr_pos h)
  rw [h2.1, h2.2, h1.1, h1.2]
  exact ⟨rfl, rfl⟩
theorem Few.zero {q : Rat} (h : Few 0 q) : fr q = 0 := by
  have hd := den_pos q
  have h1 := Int.emod_nonneg q.num (by omega : (q.den : Int) ≠ 0)
  rw [fr_zero_iff]
  unfold Few at h
  rcases Int.lt_or_le 0 (q.num % q.den) with h2 | h2
  · have : 0 < q.num % q.den * q.den := Int.mul_pos h2 hd
    omega
  · omega
theorem half_of {d m b : Int} (hm : 0 < m) (hd : m < d) (h : m * d < 2 * b) : d % m * m < b := by
  have h1 := Int.emod_nonneg d (by omega : m ≠ 0)
  have h2 := Int.emod_lt_of_pos d hm
  have h3 := Int.mul_ediv_add_emod d m
  have h4 : 1 ≤ d / m := (Int.le_ediv_iff_mul_le hm).2 (by omega)
  have h5 : m * 1 ≤ m * (d / m) := Int.mul_le_mul_of_nonneg_left h4 (by omega)
  have h6 : 2 * (d % m) ≤ d := by omega
  have h7 : m * (2 * (d % m)) ≤ m * d := Int.mul_le_mul_of_nonneg_left h6 (by omega)
  have h8 : m * (2 * (d % m)) = 2 * (d % m * m) := by rw [Int.mul_comm, Int.mul_assoc]
  omega
theorem Few.next {b : Nat} {q : Rat} (h : Few (b + 1) q) (h0 : fr q ≠ 0) : Few b (fr q)⁻¹ := by
  have hd := den_pos q
  have h1 := Int.emod_nonneg q.num (by omega : (q.den : Int) ≠ 0)
  have h2 := Int.emod_lt_of_pos q.num hd
  have hn := next_parts h0
  have hz : q.num % q.den ≠ 0 := fun hc => h0 ((fr_zero_iff q).2 hc)
  unfold Few at h ⊢
  rw [hn.1, hn.2]
  refine half_of (by omega) h2 ?_
  rw [Int.pow_succ] at h
  omega
theorem Sz.next {M : Nat} {q : Rat} (h : Sz M q) (h0 : fr q ≠ 0) : Sz M (fr q)⁻¹ := by
  have hd := den_pos q
  have h1 := Int.emod_nonneg q.num (by omega : (q.den : Int) ≠ 0)
  have h2 := Int.emod_lt_of_pos q.num hd
  have hn := next_parts h0
  refine ⟨?_, ?_⟩
  · rw [hn.1]; exact h.2
  · refine Nat.le_trans (L_mono (m := ((fr q)⁻¹).den) (n := q.den) ?_) h.2
    omega
theorem Sz.floor {M : Nat} {q : Rat} (h : Sz M q) : LZ (qfloor q) ≤ M + 1 := by
  have := LZ_div q.num q.den
  have := h.1
  unfold qfloor
  omega
theorem Sz.LQ {M : Nat} {q : Rat} (h : Sz M q) : LQ q ≤ 2 * M := by have := h.1; have := h.2; unfold FK.LQ; omega
theorem few_of {M : Nat} {q : Rat} (h : Sz M q) : Few (64 * M) q := by
  have hd := den_pos q
  have h1 := Int.emod_nonneg q.num (by omega : (q.den : Int) ≠ 0)
  have h2 := Int.emod_lt_of_pos q.num hd
  have h3 : q.den < 4294967296 ^ M := Nat.lt_of_lt_of_le (L_lt q.den) (Nat.pow_le_pow_right (by omega) h.2)
  have e : (4294967296 : Nat) ^ M = 2 ^ (32 * M) := by rw [Nat.pow_mul]
  rw [e] at h3
  have h4 : q.den * q.den < 2 ^ (32 * M) * 2 ^ (32 * M) := Nat.mul_lt_mul'' h3 h3
  rw [← Nat.pow_add, show 32 * M + 32 * M = 64 * M by omega] at h4
  have h5 : ((q.den * q.den : Nat) : Int) < ((2 ^ (64 * M) : Nat) : Int) := by omega
  have h6 : q.num % q.den * q.den ≤ (q.den : Int) * q.den := Int.mul_le_mul_of_nonneg_right (by omega) (by omega)
  unfold Few
  rw [Int.natCast_mul, Int.natCast_pow] at h5
  have e2 : ((2 : Nat) : Int) = 2 := rfl
  rw [e2] at h5
  exact Int.lt_of_le_of_lt h6 h5

theorem of_fr_zero {q : Rat} (h : fr q = 0) : (qfloor q : Rat) = q := by unfold fr at h; grind
theorem one_le_floor {q : Rat} (h : 1 ≤ q) : 0 < qfloor q := by
  have : (1 : Int) ≤ qfloor q := le_qfloor.2 (by simpa using h)
  omega
theorem one_le_next {q : Rat} (h : fr q ≠ 0) : 1 ≤ (fr q)⁻¹ := by
  have h1 := fr_pos h
  have h2 := fr_lt_one q
  have := (inv_lt (a := 1) (b := fr q) (by decide) h1).2 h2
  have e : (1 : Rat)⁻¹ = 1 := by decide +kernel
  grind
theorem cfB_length : ∀ (b : Nat) (q : Rat), (cfB b q).length ≤ b + 1
  | 0, _ => by simp [cfB]
  | b + 1, q => by
    have := cfB_length b (fr q)⁻¹
    unfold cfB
    split <;> simp <;> omega
end Go.FK


/- The plain law: RatioFractions. -/
namespace Go.FK
theorem Sz.fr {M : Nat} {q : Rat} (h : Sz M q) : Sz M (fr q) := by
  have hd := den_pos q
  have h1 := Int.emod_nonneg q.num (by omega : (q.den : Int) ≠ 0)
  have h2 := Int.emod_lt_of_pos q.num hd
  have hp := fr_parts q
  refine ⟨?_, by rw [hp.2]; exact h.2⟩
  rw [hp.1]
  exact Nat.le_trans (L_mono (m := (q.num % q.den).natAbs) (n := q.den) (by omega)) h.2
theorem Sz.int {M : Nat} {q : Rat} (h : Sz M q) : Rt (2 * M + 2) (rat (qfloor q : Rat)) (qfloor q : Rat) := Rt.of (by
  unfold FK.LQ
  rw [Rat.num_intCast, Rat.den_intCast]
  have := h.floor
  have := L_one
  omega)
theorem expand_step {M : Nat} (h1 : 1 ≤ M) (hM : M ≤ 1000000000) (q : Rat) (r : RR) (l : List (Bool × List Int)) (hs : Sz M q) (hr : Rt (2 * M) r q) (hz : fr q = 0 → l = [int (qfloor q)])
    (hn : fr q ≠ 0 → ∃ l', l = int (qfloor q) :: l' ∧ Ev (fun k => expF ratio_Floor.f ratio_of.f (fun k x => ratio_Sub.f k x.1 x.2) ratio_Inv.f k (rat (fr q)⁻¹)) l') :
    Ev (fun k => expF ratio_Floor.f ratio_of.f (fun k x => ratio_Sub.f k x.1 x.2) ratio_Inv.f k r) l := by
  refine Ev.turn (fun k => rfl) ?_
  have hf : Zt (M + 1) (int (qfloor q)) (qfloor q) := Zt.of hs.floor
  have hd : Ev (fun k => ratio_Sub.f k r (rat (qfloor q : Rat))) (rat (FK.fr q)) := (hr.mono (M' := 2 * M + 2) (by omega)).sub hs.int (by omega) (by omega)
  have hfr : Rt (2 * M) (rat (FK.fr q)) (FK.fr q) := Rt.of hs.fr.LQ
  refine Ev.bind (hr.floor (by omega) (by omega)) (Ev.bind (hf.rof (by omega)) (Ev.bind hd ?_))
  by_cases h0 : FK.fr q = 0
  · rw [hz h0]
    rw [h0] at hfr ⊢
    exact Ev.bind (hfr.inv_zero (by omega) (by omega)) (Ev.tru (by simp) Ev.pure)
  · obtain ⟨l', rfl, hl⟩ := hn h0
    exact Ev.bind (hfr.inv (by omega) (by omega) h0) (Ev.fls (by simp) (Ev.bind hl Ev.pure))
theorem expand_p0 {M : Nat} (h1 : 1 ≤ M) (hM : M ≤ 1000000000) : ∀ (b : Nat) (q : Rat) (r : RR), Few b q → Sz M q → Rt (2 * M) r q → Ev (fun k => expF ratio_Floor.f ratio_of.f (fun k x => ratio_Sub.f k x.1 x.2) ratio_Inv.f k r) ((cfB b q).map int)
  | 0, q, r, hw, hs, hr => expand_step h1 hM q r _ hs hr (fun _ => rfl) (fun h => absurd hw.zero h)
  | b + 1, q, r, hw, hs, hr => by
    unfold cfB
    refine expand_step h1 hM q r _ hs hr (fun h => by rw [if_pos h]; rfl) (fun h => ?_)
    rw [if_neg h]
    exact ⟨_, rfl, expand_p0 h1 hM b _ _ (hw.next h) (hs.next h) (Rt.of (hs.next h).LQ)⟩

theorem rexpand_step {M : Nat} (h1 : 1 ≤ M) (hM : M ≤ 1000000000) (q : Rat) (r : RR) (l acc : List (Bool × List Int)) (hs : Sz M q) (hr : Rt (2 * M) r q) (ha : acc.length < 4398046511104) (hz : fr q = 0 → l = [int (qfloor q)])
    (hn : fr q ≠ 0 → ∃ l', l = int (qfloor q) :: l' ∧ Ev (fun k => ref03_Expand.p0 k (rat (fr q)⁻¹) (acc ++ [int (qfloor q)])) (acc ++ [int (qfloor q)] ++ l')) :
    Ev (fun k => ref03_Expand.p0 k r acc) (acc ++ l) := by
  refine Ev.turn (fun k => ref03_Expand.p0_succ k _ _) ?_
  unfold ref03_Expand.e0
  have hf : Zt (M + 1) (int (qfloor q)) (qfloor q) := Zt.of hs.floor
  have hd : Ev (fun k => ref03_Sub.f k r (rat (qfloor q : Rat))) (rat (FK.fr q)) := (hr.mono (M' := 2 * M + 2) (by omega)).rsub hs.int (by omega) (by omega)
  have hfr : Rt (2 * M) (rat (FK.fr q)) (FK.fr q) := Rt.of hs.fr.LQ
  refine Ev.bind (hr.rfloor (by omega) (by omega)) (Ev.tru (by simp only [List.length_singleton, Bool.and_eq_true, Nat.ble_eq]; omega) (Ev.bind (hf.rint (by omega) (by omega)) (Ev.bind hd (Ev.bind (hfr.rsign (by omega) (by omega)) ?_))))
  by_cases h0 : FK.fr q = 0
  · rw [hz h0]
    exact Ev.tru (by rw [h0]; simp) Ev.pure
  · obtain ⟨l', rfl, hl⟩ := hn h0
    have e : acc ++ int (qfloor q) :: l' = acc ++ [int (qfloor q)] ++ l' := by simp
    rw [e]
    refine Ev.fls (by have := mt Rat.num_eq_zero.1 h0; simp [Int.sign_eq_zero_iff_zero, this]) (Ev.bind (hfr.rinv (by omega) (by omega) h0) hl)
theorem rexpand_p0 {M : Nat} (h1 : 1 ≤ M) (hM : M ≤ 1000000000) : ∀ (b : Nat) (q : Rat) (r : RR) (acc : List (Bool × List Int)), acc.length + b < 4398046511104 → Few b q → Sz M q → Rt (2 * M) r q → Ev (fun k => ref03_Expand.p0 k r acc) (acc ++ (cfB b q).map int)
  | 0, q, r, acc, ha, hw, hs, hr => rexpand_step h1 hM q r _ acc hs hr (by omega) (fun _ => rfl) (fun h => absurd hw.zero h)
  | b + 1, q, r, acc, ha, hw, hs, hr => by
    unfold cfB
    refine rexpand_step h1 hM q r _ acc hs hr (by omega) (fun h => by rw [if_pos h]; rfl) (fun h => ?_)
    rw [if_neg h]
    exact ⟨_, rfl, rexpand_p0 h1 hM b _ _ _ (by simp; omega) (hw.next h) (hs.next h) (Rt.of (hs.next h).LQ)⟩

theorem Rt.sz {M : Nat} {r : RR} {q : Rat} (h : Rt M r q) (h1 : 1 ≤ M) : Sz (2 * M) q := by
  have := h.LQ h1
  have := LQ_num q
  have := LQ_den q
  exact ⟨by omega, by omega⟩
variable {M : Nat} {r : RR} {q : Rat}
end Go.FK
