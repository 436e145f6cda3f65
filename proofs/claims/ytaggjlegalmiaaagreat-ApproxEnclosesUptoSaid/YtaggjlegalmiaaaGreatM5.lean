import Derived.Test.YtaggjlegalmiaaaGreatM4

/- What Nearest, Down, Up are among the floats: nearest, monotone, beside one another. No program in sight. -/
namespace Go.FK
open Flt

theorem fb_mod {s : Bool} {k : Nat} (hk : k < 9223372036854775808) : fb s k % 9223372036854775808 = k := by unfold fb; split <;> omega
theorem fb_sign {s : Bool} {k : Nat} (hk : k < 9223372036854775808) : (fb s k / 9223372036854775808 % 2 == 1) = s := by
  unfold fb
  cases s
  · rw [if_neg (by simp), show k / 9223372036854775808 = 0 by omega]; rfl
  · rw [if_pos rfl, show (k + 9223372036854775808) / 9223372036854775808 = 1 by omega]; rfl
theorem fb_lt {s : Bool} {k : Nat} (hk : k < 9223372036854775808) : fb s k < 18446744073709551616 := by unfold fb; split <;> omega
theorem R_fb {s : Bool} {k : Nat} (hk : k < 9223372036854775808) : R (fb s k) = if s = true then -(k : Int) else (k : Int) := by
  unfold R
  rw [fb_mod hk]
  have := fb_sign (s := s) hk
  cases s
  · rw [beq_eq_false_iff_ne] at this; rw [if_neg this, if_neg (by simp)]
  · rw [beq_iff_eq] at this; rw [if_pos this, if_pos rfl]
theorem isN_fb {s : Bool} {k : Nat} (hk : k ≤ 9218868437227405312) : isN (fb s k) = false := by unfold isN; rw [fb_mod (by omega)]; exact dec_f (by omega)
theorem fin_fb {s : Bool} {k : Nat} (hk : k < 9223372036854775808) : Fin (fb s k) ↔ k ≤ 9218868437227405311 := by unfold Fin; rw [fb_mod hk]
theorem val_fb {s : Bool} {k : Nat} (hk : k < 9223372036854775808) : val (fb s k) = num s k := by unfold val; rw [fb_mod hk, fb_sign hk]
theorem num_TT (s : Bool) (k : Nat) : num s k * (TT : Rat) = (S s k : Rat) := div_mul
theorem S_false (k : Nat) : ((S false k : Int) : Rat) = (U k : Rat) := by unfold S; rw [if_neg (by simp)]; rfl
theorem S_true (k : Nat) : ((S true k : Int) : Rat) = -(U k : Rat) := by unfold S; rw [if_pos rfl, Rat.intCast_neg]; rfl

theorem abs_if (x : Rat) : x.abs = if x < 0 then -x else x := by
  split
  · exact Rat.abs_of_nonpos (Rat.le_of_lt ‹_›)
  · exact Rat.abs_of_nonneg (Rat.not_lt.1 ‹_›)
theorem mul_TT_lt {a b : Rat} : a * (TT : Rat) < b * (TT : Rat) ↔ a < b := Rat.mul_lt_mul_right TT_posR
theorem mul_TT_eq {a b : Rat} : a * (TT : Rat) = b * (TT : Rat) ↔ a = b := by
  constructor
  · intro h
    rcases (show a < b ∨ a = b ∨ b < a by grind) with h1 | h1 | h1
    · have := mul_TT_lt.2 h1; rw [h] at this; exact absurd this Rat.lt_irrefl
    · exact h1
    · have := mul_TT_lt.2 h1; rw [h] at this; exact absurd this Rat.lt_irrefl
  · intro h; rw [h]
theorem sub_TT (a b : Rat) : (a - b) * (TT : Rat) = a * (TT : Rat) - b * (TT : Rat) := by rw [Rat.sub_eq_add_neg, Rat.add_mul, Rat.neg_mul, ← Rat.sub_eq_add_neg]
theorem abs_TT (x : Rat) : x.abs * (TT : Rat) = (x * (TT : Rat)).abs := by
  rw [abs_if, abs_if]
  have h : x * (TT : Rat) < 0 ↔ x < 0 := by
    have := mul_TT_lt (a := x) (b := 0)
    rw [Rat.zero_mul] at this
    exact this
  by_cases c : x < 0
  · rw [if_pos c, if_pos (h.2 c), Rat.neg_mul]
  · rw [if_neg c, if_neg (fun h' => c (h.1 h'))]
theorem Pl_sign {p : Rat} : p * (TT : Rat) = if p < 0 then -(p.abs * (TT : Rat)) else p.abs * (TT : Rat) := by
  rw [abs_if]
  split
  · rw [Rat.neg_mul, Rat.neg_neg]
  · rfl

theorem At.cases {y : Rat} {k : Nat} {a : Int} (h : At y k a) : a = -1 ∨ a = 0 ∨ a = 1 ∨ a = 2 := by
  rcases h.at_ with ⟨h1, _⟩ | ⟨h1, _⟩ | ⟨h1, _⟩ | ⟨h1, _⟩ <;> omega

/-- What is greater stands no lower. -/
theorem At.mono {y y' : Rat} {k k' : Nat} {a a' : Int} (h : At y k a) (g : At y' k' a') (hy : y ≤ y') : k < k' ∨ (k = k' ∧ a ≤ a') := by
  by_cases c : k < k'
  · exact Or.inl c
  · right
    have e : k = k' := by
      apply Classical.byContradiction
      intro hne
      have h1 := g.hi
      have h2 := h.le
      rcases h1 with h1 | h1
      · omega
      · have h3 : U (k' + 1) ≤ U k := U_mono (by omega)
        have h4 : (U (k' + 1) : Rat) ≤ U k := by exact_mod_cast h3
        have h5 := h.lo
        grind
    subst e
    refine ⟨rfl, ?_⟩
    have h3 := h.at_
    have h4 := g.at_
    grind

/-- Nothing is nearer. -/
theorem At.best {y : Rat} {k : Nat} {a : Int} (h : At y k a) (hm : nr k a ≤ 9218868437227405311) {F : Rat} (hF : F ≤ (U k : Rat) ∨ (k ≠ 9218868437227405311 ∧ (U (k + 1) : Rat) ≤ F)) :
    ((U (nr k a) : Rat) - y).abs < (F - y).abs ∨ (((U (nr k a) : Rat) - y).abs = (F - y).abs ∧ (F = (U (nr k a) : Rat) ∨ nr k a % 2 = 0)) := by
  have hat := h.at_
  have hlo := h.lo
  have hhi := h.hi
  unfold nr at *
  by_cases c : a = 2 ∨ (a = 1 ∧ k % 2 = 1)
  · rw [if_pos c] at *
    have hk : k ≠ 9218868437227405311 := by omega
    have hhi' := hhi.resolve_left hk
    have h1 : ((U (k + 1) : Rat) - y).abs = (U (k + 1) : Rat) - y := Rat.abs_of_nonneg (by grind)
    rw [h1]
    rcases hF with hF | ⟨_, hF⟩
    · have h2 : (F - y).abs = y - F := by rw [Rat.abs_of_nonpos (by grind)]; grind
      rw [h2]
      rcases c with c | ⟨c, c2⟩
      · left
        rcases hat with ⟨h3, _⟩ | ⟨h3, _⟩ | ⟨h3, _⟩ | ⟨_, _, h3⟩
        · omega
        · omega
        · omega
        · grind
      · rcases hat with ⟨h3, _⟩ | ⟨h3, _⟩ | ⟨_, _, h3⟩ | ⟨h3, _⟩
        · omega
        · omega
        · have c3 : (k + 1) % 2 = 0 := by omega
          rcases (show F < (U k : Rat) ∨ F = (U k : Rat) by grind) with h4 | h4
          · left; grind
          · right; exact ⟨by grind, Or.inr c3⟩
        · omega
    · have h2 : (F - y).abs = F - y := Rat.abs_of_nonneg (by grind)
      rw [h2]
      rcases (show (U (k + 1) : Rat) < F ∨ F = (U (k + 1) : Rat) by grind) with h4 | h4
      · left; grind
      · right; exact ⟨by grind, Or.inl h4⟩
  · rw [if_neg c] at *
    have h1 : ((U k : Rat) - y).abs = y - (U k : Rat) := by rw [Rat.abs_of_nonpos (by grind)]; grind
    rw [h1]
    rcases hF with hF | ⟨hk, hF⟩
    · have h2 : (F - y).abs = y - F := by rw [Rat.abs_of_nonpos (by grind)]; grind
      rw [h2]
      rcases (show F < (U k : Rat) ∨ F = (U k : Rat) by grind) with h4 | h4
      · left; grind
      · right; exact ⟨by grind, Or.inl h4⟩
    · have hhi' := hhi.resolve_left hk
      have h2 : (F - y).abs = F - y := Rat.abs_of_nonneg (by grind)
      rw [h2]
      rcases hat with ⟨h3, h4⟩ | ⟨h3, _, h4⟩ | ⟨h3, _, h4⟩ | ⟨h3, _⟩
      · left; grind
      · left; grind
      · have c3 : k % 2 = 0 := by omega
        rcases (show (U (k + 1) : Rat) < F ∨ F = (U (k + 1) : Rat) by grind) with h5 | h5
        · left; grind
        · right; exact ⟨by grind, Or.inr c3⟩
      · omega

theorem split_at {k j : Nat} (hj : j ≤ 9218868437227405311) : (U j : Rat) ≤ (U k : Rat) ∨ (k ≠ 9218868437227405311 ∧ (U (k + 1) : Rat) ≤ (U j : Rat)) ∨ 9218868437227405311 < k := by
  by_cases h : j ≤ k
  · left
    have := U_mono h
    exact_mod_cast this
  · by_cases hk : 9218868437227405311 < k
    · exact Or.inr (Or.inr hk)
    · right; left
      refine ⟨by omega, ?_⟩
      have := U_mono (show k + 1 ≤ j by omega)
      exact_mod_cast this

theorem U_nonneg (k : Nat) : (0 : Rat) ≤ (U k : Rat) := Rat.natCast_nonneg

/-- The same of a number with its sign, and of any finite float. -/
theorem Pl.best {p : Rat} {k : Nat} {a : Int} (h : Pl p k a) (hm : nr k a ≤ 9218868437227405311) {x : Nat} (hf : Fin x) :
    (val (nrB p k a) - p).abs < (val x - p).abs ∨ ((val (nrB p k a) - p).abs = (val x - p).abs ∧ (val x = val (nrB p k a) ∨ nr k a % 2 = 0)) := by
  have hk := h.lt
  have hnr : nr k a < 9223372036854775808 := by omega
  have hv : val (nrB p k a) = num (decide (p < 0)) (nr k a) := by unfold nrB; exact val_fb hnr
  rw [hv, ← mul_TT_lt, ← mul_TT_eq (a := (num _ _ - p).abs), ← mul_TT_eq (a := val x), abs_TT, abs_TT, sub_TT, sub_TT, num_TT, Pl_sign]
  have hj : x % 9223372036854775808 ≤ 9218868437227405311 := hf
  have hvx : val x * (TT : Rat) = ((S (x / 9223372036854775808 % 2 == 1) (x % 9223372036854775808) : Int) : Rat) := num_TT _ _
  rw [hvx]
  generalize (x / 9223372036854775808 % 2 == 1) = s
  generalize x % 9223372036854775808 = j at *
  have hle := h.le
  have hsp := (split_at (k := k) hj)
  have u0 := U_nonneg k
  have u1 := U_nonneg j
  have key : ∀ F : Rat, (F = (U j : Rat) ∨ F = -(U j : Rat)) → (F ≤ (U k : Rat) ∨ (k ≠ 9218868437227405311 ∧ (U (k + 1) : Rat) ≤ F)) := by
    rintro F (rfl | rfl)
    · rcases hsp with h1 | h1 | h1
      · exact Or.inl h1
      · exact Or.inr h1
      · omega
    · left; grind
  by_cases hp : p < 0
  · rw [dec_t hp, if_pos hp, S_true]
    have e : ∀ F : Rat, (F - -(p.abs * (TT : Rat))).abs = (-F - p.abs * (TT : Rat)).abs := fun F => by
      rw [← Rat.abs_neg]
      congr 1
      grind
    rw [e, e, Rat.neg_neg]
    have := At.best h hm (key (-((S s j : Int) : Rat)) (by cases s <;> simp [S_true, S_false]))
    rcases this with h1 | ⟨h1, h2 | h2⟩
    · exact Or.inl h1
    · exact Or.inr ⟨h1, Or.inl (by grind)⟩
    · exact Or.inr ⟨h1, Or.inr h2⟩
  · rw [dec_f hp, if_neg hp, S_false]
    exact At.best h hm (key ((S s j : Int) : Rat) (by cases s <;> simp [S_true, S_false]))

theorem nr_le {k : Nat} {a : Int} : nr k a ≤ k + 1 ∧ k ≤ nr k a := by unfold nr; split <;> omega

theorem nr_mono {k : Nat} {a a' : Int} (h : a ≤ a') (ha' : a' ≤ 2) : nr k a ≤ nr k a' := by unfold nr; split <;> split <;> omega

theorem val_eq_R {x y : Nat} (h : val x = val y) : R x = R y := by
  unfold val at h
  rw [← mul_TT_eq, num_TT, num_TT] at h
  have h' : S (x / 9223372036854775808 % 2 == 1) (x % 9223372036854775808) = S (y / 9223372036854775808 % 2 == 1) (y % 9223372036854775808) := by exact_mod_cast h
  have c := S_le (x / 9223372036854775808 % 2 == 1) (y / 9223372036854775808 % 2 == 1) (x % 9223372036854775808) (y % 9223372036854775808)
  rw [h'] at c
  have c2 : compare (S (y / 9223372036854775808 % 2 == 1) (y % 9223372036854775808)) (S (y / 9223372036854775808 % 2 == 1) (y % 9223372036854775808)) = Ordering.eq := by
    rw [cmpI, if_neg (by omega), if_pos rfl]
  rw [c2] at c
  have c3 := c.symm
  rw [cmpI] at c3
  unfold R
  simp only [beq_iff_eq] at c3
  by_cases hlt : (if x / 9223372036854775808 % 2 = 1 then -((x % 9223372036854775808 : Nat) : Int) else ((x % 9223372036854775808 : Nat) : Int)) < (if y / 9223372036854775808 % 2 = 1 then -((y % 9223372036854775808 : Nat) : Int) else ((y % 9223372036854775808 : Nat) : Int))
  · rw [if_pos hlt] at c3; cases c3
  · rw [if_neg hlt] at c3
    by_cases heq : (if x / 9223372036854775808 % 2 = 1 then -((x % 9223372036854775808 : Nat) : Int) else ((x % 9223372036854775808 : Nat) : Int)) = (if y / 9223372036854775808 % 2 = 1 then -((y % 9223372036854775808 : Nat) : Int) else ((y % 9223372036854775808 : Nat) : Int))
    · exact heq
    · rw [if_neg heq] at c3; cases c3

end Go.FK


/- Spans: their ends, which may be, what they have. ApproxHas. -/
namespace Go.FK
open Flt

/-- An end: infinite below (-1) or above (1), or a number. -/
abbrev EE := Int × RR
/-- e stands for the end (f, q). -/
structure Er (M : Nat) (e : EE) (f : Int) (q : Rat) : Prop where
  far : e.1 = f
  ok : f = -1 ∨ f = 0 ∨ f = 1
  at_ : Rt M e.2 q

theorem Er.mono {M M' : Nat} {e : EE} {f : Int} {q : Rat} (h : Er M e f q) (hM : M ≤ M') : Er M' e f q := ⟨h.far, h.ok, h.at_.mono hM⟩

theorem noRat_rt {M : Nat} : Rt M noRat 0 := ⟨Lim.nil, Lim.nil, by simp [noRat], by simp [noRat], by simp [Qv, noRat, V]⟩

/-- The order of ends: below 0, 0, above 0. -/
def ec (f : Int) (p : Rat) (g : Int) (q : Rat) : Int := if f ≠ g then f - g else if f ≠ 0 then 0 else qs p q

theorem Er.cmp {M : Nat} {x y : EE} {f g : Int} {p q : Rat} (hx : Er M x f p) (hy : Er M y g q) (h1 : 1 ≤ M) (hM : M ≤ 100000000000) : Ev (fun k => approx_cmp.f k x y) (ec f p g q) := by
  obtain ⟨hf, o1, rx⟩ := hx
  obtain ⟨hg, o2, ry⟩ := hy
  unfold approx_cmp.f approx_cmp.e ec
  rw [hf, hg]
  by_cases c : f = g
  · rw [if_neg (fun h => h c)]
    refine Ev.fls (by rw [dec_t c]; rfl) ?_
    by_cases c0 : f = 0
    · rw [if_neg (fun h => h c0)]
      exact Ev.fls (by rw [dec_t c0]; rfl) (Ev.bind (rx.cmp ry h1 (by omega)) Ev.pure)
    · rw [if_pos c0]
      exact Ev.tru (by rw [dec_f c0]; rfl) Ev.pure
  · rw [if_pos c]
    refine Ev.tru (by rw [dec_f c]; rfl) ?_
    rw [wrap_i64 (by omega) (by omega)]
    exact Ev.pure

theorem Er.under {M : Nat} {x y : EE} {f g : Int} {p q : Rat} (hx : Er M x f p) (hy : Er M y g q) (h1 : 1 ≤ M) (hM : M ≤ 100000000000) : Ev (fun k => ref04_under.f k x y) (decide (ec f p g q < 0)) := by
  obtain ⟨hf, o1, rx⟩ := hx
  obtain ⟨hg, o2, ry⟩ := hy
  unfold ref04_under.f ref04_under.e ec
  rw [hf, hg]
  by_cases c : f = g
  · rw [if_neg (fun h => h c)]
    refine Ev.fls (by rw [dec_t c]; rfl) ?_
    by_cases c0 : f = 0
    · rw [if_neg (fun h => h c0)]
      exact Ev.tru (dec_t c0) (Ev.bind (rx.rcmp ry h1 (by omega)) Ev.pure)
    · rw [if_pos c0]
      exact Ev.fls (dec_f c0) Ev.pure
  · rw [if_pos c, decide_eq_decide.2 (show f - g < 0 ↔ f < g by omega)]
    exact Ev.tru (by rw [dec_f c]; rfl) Ev.pure

theorem qs_swap (p q : Rat) : qs p q ≤ 0 ↔ ¬ qs q p < 0 := by
  rw [qs_neg]
  rcases (show p < q ∨ p = q ∨ q < p by grind) with h | h | h
  · rw [qs_lt h]
    constructor
    · intro _; grind
    · intro _; omega
  · rw [qs_eq h]
    constructor
    · intro _; grind
    · intro _; omega
  · rw [qs_gt h]
    constructor
    · intro h2; omega
    · intro h2; exact absurd h h2

theorem ec_ne {f g : Int} (h : f ≠ g) (p q : Rat) : ec f p g q = f - g := by unfold ec; rw [if_pos h]
theorem ec_far {f : Int} (h : f ≠ 0) (p q : Rat) : ec f p f q = 0 := by unfold ec; rw [if_neg (by simp), if_pos h]
theorem ec_num (p q : Rat) : ec 0 p 0 q = qs p q := by unfold ec; rw [if_neg (by simp), if_neg (by simp)]

theorem ec_swap (f : Int) (p : Rat) (g : Int) (q : Rat) : ec f p g q ≤ 0 ↔ ¬ ec g q f p < 0 := by
  by_cases c : f = g
  · subst c
    by_cases c0 : f = 0
    · subst c0
      rw [ec_num, ec_num]
      exact qs_swap p q
    · rw [ec_far c0, ec_far c0]; omega
  · rw [ec_ne c, ec_ne (fun h => c h.symm)]; omega

/-- How far a float is, and its number. -/
def farOf (x : Nat) : Int := if x = 9218868437227405312 then 1 else if x = 18442240474082181120 then -1 else 0
def atOf (x : Nat) : Rat := if x = 9218868437227405312 then 0 else if x = 18442240474082181120 then 0 else val x
def enOf (x : Nat) : EE := if x = 9218868437227405312 then (1, noRat) else if x = 18442240474082181120 then (-1, noRat) else (0, rat (val x))

theorem fin_of {x : Nat} (_hx : x < 18446744073709551616) (hn : isN x = false) (h1 : x ≠ 9218868437227405312) (h2 : x ≠ 18442240474082181120) : Fin x := by
  unfold isN at hn
  have := of_decide_eq_false hn
  unfold Fin
  omega

theorem enOf_er {x : Nat} (hx : x < 18446744073709551616) (hn : isN x = false) : Er 300 (enOf x) (farOf x) (atOf x) := by
  unfold enOf farOf atOf
  by_cases h1 : x = 9218868437227405312
  · rw [if_pos h1, if_pos h1, if_pos h1]
    exact ⟨rfl, by omega, noRat_rt⟩
  · rw [if_neg h1, if_neg h1, if_neg h1]
    by_cases h2 : x = 18442240474082181120
    · rw [if_pos h2, if_pos h2, if_pos h2]
      exact ⟨rfl, by omega, noRat_rt⟩
    · rw [if_neg h2, if_neg h2, if_neg h2]
      exact ⟨rfl, by omega, Rt.of (Nat.le_trans (LQ_val (fin_of hx hn h1 h2)) (by omega))⟩

theorem isInf_evm {x : Nat} (hx : x < 18446744073709551616) : Ev (fun f => math_IsInf.f f x (-1)) (decide (x = 18442240474082181120)) := by
  unfold math_IsInf.f math_IsInf.e
  refine Ev.fls (by simp) (Ev.tru (by simp) ?_)
  have : fGt (fNeg x) 9218868437227405311 = decide (x = 18442240474082181120) := by
    cases h : isN x
    · have h' : isN (fNeg x) = false := by rw [isN_neg hx]; exact h
      rw [fGt_eq h' isN_max, R_max]
      apply decide_eq_decide.2
      rw [fNeg_eq hx]
      unfold R
      unfold isN at h
      have h2 := of_decide_eq_false h
      split <;> split <;> omega
    · have h' : isN (fNeg x) = true := by rw [isN_neg hx]; exact h
      rw [fGt_nan (Or.inl h')]
      unfold isN at h
      have h2 := of_decide_eq_true h
      rw [dec_f (by omega)]
  rw [← this]
  exact isInf_p11 _

theorem endOf_ev {x : Nat} (hx : x < 18446744073709551616) (hn : isN x = false) : Ev (fun f => approx_endOf.f f x) (enOf x) := by
  unfold approx_endOf.f approx_endOf.e enOf
  refine Ev.bind (isInf_ev1 hx) ?_
  by_cases h1 : x = 9218868437227405312
  · rw [if_pos h1]
    exact Ev.tru (dec_t h1) Ev.pure
  · rw [if_neg h1]
    refine Ev.fls (dec_f h1) (Ev.bind (isInf_evm hx) ?_)
    by_cases h2 : x = 18442240474082181120
    · rw [if_pos h2]
      exact Ev.tru (dec_t h2) Ev.pure
    · rw [if_neg h2]
      exact Ev.fls (dec_f h2) (Ev.bind (exact_ev hx (fin_of hx hn h1 h2)) Ev.pure)

theorem rendOf_ev {x : Nat} (hx : x < 18446744073709551616) (hn : isN x = false) : Ev (fun f => ref04_endOf.f f x) (enOf x) := by
  unfold ref04_endOf.f ref04_endOf.e enOf math_Float64bits.f
  refine Ev.bind Ev.pure ?_
  by_cases h1 : x = 9218868437227405312
  · rw [if_pos h1]
    exact Ev.tru (dec_t (by omega)) Ev.pure
  · rw [if_neg h1]
    refine Ev.fls (dec_f (by omega)) (Ev.bind (risInf_ev hx) ?_)
    by_cases h2 : x = 18442240474082181120
    · rw [if_pos h2]
      exact Ev.tru (by unfold isI; rw [h2]; decide) Ev.pure
    · rw [if_neg h2]
      have hf := fin_of hx hn h1 h2
      have hr : Rt 250 (rat (val x)) (val x) := Rt.of (LQ_val hf)
      exact Ev.fls hf.inf (Ev.bind (number_ev hx hf) (Ev.bind (hr.rnorm (by omega)) Ev.pure))

/-! ### The order of floats as ends -/
theorem val_lt_R {x y : Nat} : val x < val y ↔ R x < R y := by
  unfold val
  rw [← mul_TT_lt, num_TT, num_TT]
  have e : ∀ a b : Int, ((a : Rat) < (b : Rat)) ↔ a < b := fun a b => by exact_mod_cast Iff.rfl
  rw [e]
  have c := S_le (x / 9223372036854775808 % 2 == 1) (y / 9223372036854775808 % 2 == 1) (x % 9223372036854775808) (y % 9223372036854775808)
  have h1 : ∀ a b : Int, a < b ↔ compare a b = Ordering.lt := fun a b => by
    rw [cmpI]
    by_cases h : a < b
    · rw [if_pos h]; simp [h]
    · rw [if_neg h]
      constructor
      · intro h'; exact absurd h' h
      · intro h'; split at h' <;> cases h'
  rw [h1, h1, c]
  unfold R
  simp only [beq_iff_eq]

theorem ec_R {x y : Nat} (hx : x < 18446744073709551616) (hy : y < 18446744073709551616) (nx : isN x = false) (ny : isN y = false) : ec (farOf x) (atOf x) (farOf y) (atOf y) < 0 ↔ R x < R y := by
  have hnx : ¬ 9218868437227405312 < x % 9223372036854775808 := by unfold isN at nx; exact of_decide_eq_false nx
  have hny : ¬ 9218868437227405312 < y % 9223372036854775808 := by unfold isN at ny; exact of_decide_eq_false ny
  have Rx : ∀ {z : Nat}, z < 18446744073709551616 → ¬ 9218868437227405312 < z % 9223372036854775808 → (farOf z = 1 ∧ R z = 9218868437227405312) ∨ (farOf z = -1 ∧ R z = -9218868437227405312) ∨ (farOf z = 0 ∧ atOf z = val z ∧ -9218868437227405312 < R z ∧ R z < 9218868437227405312) := fun {z} hz hn => by
    unfold farOf atOf
    by_cases h1 : z = 9218868437227405312
    · left; rw [if_pos h1]; exact ⟨rfl, by rw [h1]; decide⟩
    · rw [if_neg h1, if_neg h1]
      by_cases h2 : z = 18442240474082181120
      · right; left; rw [if_pos h2]; exact ⟨rfl, by rw [h2]; decide⟩
      · right; right
        rw [if_neg h2, if_neg h2]
        refine ⟨rfl, rfl, ?_⟩
        unfold R
        split <;> omega
  unfold ec
  rcases Rx hx hnx with ⟨a1, a2⟩ | ⟨a1, a2⟩ | ⟨a1, a2, a3, a4⟩ <;> rcases Rx hy hny with ⟨b1, b2⟩ | ⟨b1, b2⟩ | ⟨b1, b2, b3, b4⟩ <;> rw [a1, b1]
  · simp; omega
  · simp; omega
  · simp; omega
  · simp; omega
  · simp; omega
  · simp; omega
  · simp; omega
  · simp; omega
  · rw [if_neg (by simp), if_neg (by simp), qs_neg, a2, b2]
    exact val_lt_R

/-! ### Valid -/
structure Vd (a : Nat × Nat) : Prop where
  lo : isN a.1 = false
  hi : isN a.2 = false
  le : R a.1 ≤ R a.2
  nlo : a.1 ≠ 9218868437227405312
  nhi : a.2 ≠ 18442240474082181120

theorem valid_ev {a : Nat × Nat} (h1 : a.1 < 18446744073709551616) (h2 : a.2 < 18446744073709551616) : ∃ b : Bool, (b = true ↔ Vd a) ∧ Ev (fun f => approx_Valid.f f a) b ∧ Ev (fun f => ref04_Valid.f f a) b := by
  have q9 : Ev (fun f => ref04_Valid.p9 f ()) false := by
    refine Ev.turn (fun f => ref04_Valid.p9_succ f _) ?_
    unfold ref04_Valid.e9; exact Ev.pure
  unfold approx_Valid.f approx_Valid.e ref04_Valid.f ref04_Valid.e math_Float64bits.f
  by_cases n1 : isN a.1 = true
  · refine ⟨false, ⟨(fun h => by cases h), fun h => by have := h.lo; rw [n1] at this; cases this⟩, ?_, Ev.bind Ev.pure (Ev.bind Ev.pure (Ev.bind (risNaN_ev h1) (Ev.tru n1 q9)))⟩
    exact Ev.fls (by rw [fLt_nan (Or.inl n1), fEq_nan (Or.inl n1)]; rfl) Ev.pure
  · have n1' : isN a.1 = false := by simpa using n1
    by_cases n2 : isN a.2 = true
    · refine ⟨false, ⟨(fun h => by cases h), fun h => by have := h.hi; rw [n2] at this; cases this⟩, ?_, Ev.bind Ev.pure (Ev.bind Ev.pure (Ev.bind (risNaN_ev h1) (Ev.fls n1' (Ev.bind (risNaN_ev h2) (Ev.tru n2 q9)))))⟩
      exact Ev.fls (by rw [fLt_nan (Or.inr n2), fEq_nan (Or.inr n2)]; rfl) Ev.pure
    · have n2' : isN a.2 = false := by simpa using n2
      have hor : (fLt a.1 a.2 || fEq a.1 a.2) = decide (R a.1 ≤ R a.2) := by
        rw [fLt_eq n1' n2', fEq_eq n1' n2']
        by_cases c : R a.1 ≤ R a.2
        · rw [dec_t c, Bool.or_eq_true, decide_eq_true_eq, decide_eq_true_eq]; omega
        · rw [dec_f c, dec_f (by omega), dec_f (by omega)]; rfl
      rw [hor]
      have hu := (enOf_er h2 n2').under (enOf_er h1 n1') (by omega) (by omega)
      have he := ec_R h2 h1 n2' n1'
      rw [decide_eq_decide.2 he] at hu
      by_cases i1 : a.1 = 9218868437227405312
      · refine ⟨false, ⟨(fun h => by cases h), fun h => absurd i1 h.nlo⟩, ?_, Ev.bind Ev.pure (Ev.bind Ev.pure (Ev.bind (risNaN_ev h1) (Ev.fls n1' (Ev.bind (risNaN_ev h2) (Ev.fls n2' (Ev.tru (dec_t (by omega)) q9))))))⟩
        cases c : decide (R a.1 ≤ R a.2)
        · exact Ev.fls rfl Ev.pure
        · exact Ev.tru rfl (Ev.bind (isInf_ev1 h1) (Ev.fls (by rw [dec_t i1]; rfl) Ev.pure))
      · by_cases i2 : a.2 = 18442240474082181120
        · refine ⟨false, ⟨(fun h => by cases h), fun h => absurd i2 h.nhi⟩, ?_, Ev.bind Ev.pure (Ev.bind Ev.pure (Ev.bind (risNaN_ev h1) (Ev.fls n1' (Ev.bind (risNaN_ev h2) (Ev.fls n2' (Ev.fls (dec_f (by omega)) (Ev.tru (dec_t (by omega)) q9)))))))⟩
          cases c : decide (R a.1 ≤ R a.2)
          · exact Ev.fls rfl Ev.pure
          · refine Ev.tru rfl (Ev.bind (isInf_ev1 h1) (Ev.tru (by rw [dec_f i1]; rfl) (Ev.bind (isInf_evm h2) ?_)))
            rw [dec_t i2]
            exact Ev.pure
        · refine ⟨decide (R a.1 ≤ R a.2), ⟨fun h => ⟨n1', n2', of_decide_eq_true h, i1, i2⟩, fun h => decide_eq_true h.le⟩, ?_, ?_⟩
          · cases c : decide (R a.1 ≤ R a.2)
            · exact Ev.fls rfl Ev.pure
            · refine Ev.tru rfl (Ev.bind (isInf_ev1 h1) (Ev.tru (by rw [dec_f i1]; rfl) (Ev.bind (isInf_evm h2) ?_)))
              rw [dec_f i2]
              exact Ev.pure
          · refine Ev.bind Ev.pure (Ev.bind Ev.pure (Ev.bind (risNaN_ev h1) (Ev.fls n1' (Ev.bind (risNaN_ev h2) (Ev.fls n2' (Ev.fls (dec_f (by omega)) (Ev.fls (dec_f (by omega)) (Ev.bind (rendOf_ev h2 n2') (Ev.bind (rendOf_ev h1 n1') (Ev.bind hu ?_))))))))))
            have : (!decide (R a.2 < R a.1)) = decide (R a.1 ≤ R a.2) := by
              by_cases c : R a.1 ≤ R a.2
              · rw [dec_t c, dec_f (by omega)]; rfl
              · rw [dec_f c, dec_t (by omega)]; rfl
            rw [this]
            exact Ev.pure

/-! ### In -/
/-- A span has a number. -/
structure Hs (a : Nat × Nat) (p : Rat) : Prop where
  vd : Vd a
  lo : ec (farOf a.1) (atOf a.1) 0 p ≤ 0
  hi : ec 0 p (farOf a.2) (atOf a.2) ≤ 0

theorem in_ev {M : Nat} {r : RR} {p : Rat} (hr : Rt M r p) (h0 : 1 ≤ M) (hM : M ≤ 1000000000) {a : Nat × Nat} (h1 : a.1 < 18446744073709551616) (h2 : a.2 < 18446744073709551616) :
    ∃ b : Bool, (b = true ↔ Hs a p) ∧ Ev (fun f => approx_In.f f r a) b ∧ Ev (fun f => ref04_In.f f r a) b := by
  obtain ⟨v, hv, v1, v2⟩ := valid_ev h1 h2
  unfold approx_In.f approx_In.e ref04_In.f ref04_In.e
  have hn := hr.rnorm (by omega)
  cases v
  · refine ⟨false, ⟨(fun h => by cases h), fun h => by have := hv.2 h.vd; cases this⟩, Ev.bind v1 (Ev.fls rfl Ev.pure), Ev.bind hn (Ev.bind v2 (Ev.fls rfl Ev.pure))⟩
  · have hvd := hv.1 rfl
    have lp := hr.LQ h0
    have x1 : Er (2 * M + 300) ((0, r) : EE) 0 p := ⟨rfl, by omega, hr.mono (by omega)⟩
    have x2 : Er (2 * M + 300) ((0, rat p) : EE) 0 p := ⟨rfl, by omega, Rt.of (by omega)⟩
    have e1 := (enOf_er h1 hvd.lo).mono (show 300 ≤ 2 * M + 300 by omega)
    have e2 := (enOf_er h2 hvd.hi).mono (show 300 ≤ 2 * M + 300 by omega)
    have c1 := e1.cmp x1 (by omega) (by omega)
    have c2 := x1.cmp e2 (by omega) (by omega)
    have u1 := x2.under e1 (by omega) (by omega)
    have u2 := e2.under x2 (by omega) (by omega)
    have s1 := ec_swap (farOf a.1) (atOf a.1) 0 p
    have s2 := ec_swap 0 p (farOf a.2) (atOf a.2)
    by_cases l : ec (farOf a.1) (atOf a.1) 0 p ≤ 0
    · have l2 := s1.1 l
      refine ⟨decide (ec 0 p (farOf a.2) (atOf a.2) ≤ 0), ⟨fun h => ⟨hvd, l, of_decide_eq_true h⟩, fun h => decide_eq_true h.hi⟩, ?_, ?_⟩
      · exact Ev.bind v1 (Ev.tru rfl (Ev.bind (endOf_ev h1 hvd.lo) (Ev.bind c1 (Ev.tru (dec_t l) (Ev.bind (endOf_ev h2 hvd.hi) (Ev.bind c2 Ev.pure))))))
      · refine Ev.bind hn (Ev.bind v2 (Ev.tru rfl (Ev.bind (rendOf_ev h1 hvd.lo) (Ev.bind u1 (Ev.tru (by rw [dec_f l2]; rfl) (Ev.bind (rendOf_ev h2 hvd.hi) (Ev.bind u2 ?_)))))))
        have : (!decide (ec (farOf a.2) (atOf a.2) 0 p < 0)) = decide (ec 0 p (farOf a.2) (atOf a.2) ≤ 0) := by
          by_cases c : ec (farOf a.2) (atOf a.2) 0 p < 0
          · rw [dec_t c, dec_f (fun h => s2.1 h c)]; rfl
          · rw [dec_f c, dec_t (s2.2 c)]; rfl
        rw [this]
        exact Ev.pure
    · have l2 : ec 0 p (farOf a.1) (atOf a.1) < 0 := Classical.byContradiction fun h => l (s1.2 h)
      refine ⟨false, ⟨(fun h => by cases h), fun h => absurd h.lo l⟩, ?_, ?_⟩
      · exact Ev.bind v1 (Ev.tru rfl (Ev.bind (endOf_ev h1 hvd.lo) (Ev.bind c1 (Ev.fls (dec_f l) Ev.pure))))
      · exact Ev.bind hn (Ev.bind v2 (Ev.tru rfl (Ev.bind (rendOf_ev h1 hvd.lo) (Ev.bind u1 (Ev.fls (by rw [dec_t l2]; rfl) Ev.pure)))))

/-! ### The span around a number -/
theorem dnB_lt {p : Rat} {k : Nat} {a : Int} (h : Pl p k a) : dnB p k a < 18446744073709551616 ∧ isN (dnB p k a) = false ∧ dnB p k a ≠ 9218868437227405312 := by
  have hk := h.le
  unfold dnB
  refine ⟨fb_lt (by split <;> omega), isN_fb (by split <;> omega), ?_⟩
  unfold fb
  by_cases hp : p < 0
  · rw [dec_t hp, if_pos rfl]; split <;> omega
  · rw [dec_f hp, if_neg (by simp), if_neg (fun h => hp h.1)]; omega
theorem upB_lt {p : Rat} {k : Nat} {a : Int} (h : Pl p k a) : upB p k a < 18446744073709551616 ∧ isN (upB p k a) = false ∧ upB p k a ≠ 18442240474082181120 := by
  have hk := h.le
  unfold upB
  refine ⟨fb_lt (by split <;> omega), isN_fb (by split <;> omega), ?_⟩
  unfold fb
  by_cases hp : p < 0
  · rw [dec_t hp, if_pos rfl, if_neg (fun h => h.1 hp)]; omega
  · rw [dec_f hp, if_neg (by simp)]; split <;> omega

theorem dn_le {p : Rat} {k : Nat} {a : Int} (h : Pl p k a) : ec (farOf (dnB p k a)) (atOf (dnB p k a)) 0 p ≤ 0 := by
  obtain ⟨d1, d2, d3⟩ := dnB_lt h
  have hk := h.le
  unfold farOf atOf
  rw [if_neg d3, if_neg d3]
  by_cases c : dnB p k a = 18442240474082181120
  · rw [if_pos c, if_pos c]
    unfold ec
    rw [if_pos (by omega)]
    omega
  · rw [if_neg c, if_neg c]
    unfold ec
    rw [if_neg (by simp), if_neg (by simp)]
    have hle : val (dnB p k a) ≤ p := by
      have hT := Pl_sign (p := p)
      have hlo := h.lo
      have hhi := h.hi
      rw [← Rat.not_lt, ← mul_TT_lt, Rat.not_lt, hT]
      unfold dnB at c ⊢
      by_cases hp : p < 0
      · rw [if_pos hp, dec_t hp] at *
        by_cases ha : a = -1
        · rw [if_neg (fun h => h.2 ha), val_fb (by omega), num_TT, S_true]
          have he := h.exact.1 ha
          rw [he]
          exact Rat.le_refl
        · rw [if_pos ⟨hp, ha⟩] at c ⊢
          have hkG : k ≠ 9218868437227405311 := fun e => by rw [e] at c; exact c rfl
          rw [val_fb (by omega), num_TT, S_true]
          have := hhi.resolve_left hkG
          grind
      · rw [if_neg hp, dec_f hp, if_neg (fun h => hp h.1), val_fb (by omega), num_TT, S_false]
        exact hlo
    rcases Rat.le_iff_lt_or_eq.1 hle with h2 | h2
    · rw [qs_lt h2]; omega
    · rw [qs_eq h2]; omega

theorem up_ge {p : Rat} {k : Nat} {a : Int} (h : Pl p k a) : ec 0 p (farOf (upB p k a)) (atOf (upB p k a)) ≤ 0 := by
  obtain ⟨d1, d2, d3⟩ := upB_lt h
  have hk := h.le
  unfold farOf atOf
  by_cases c : upB p k a = 9218868437227405312
  · rw [if_pos c, if_pos c]
    unfold ec
    rw [if_pos (by omega)]
    omega
  · rw [if_neg c, if_neg c, if_neg d3, if_neg d3]
    unfold ec
    rw [if_neg (by simp), if_neg (by simp)]
    have hle : p ≤ val (upB p k a) := by
      have hT := Pl_sign (p := p)
      have hlo := h.lo
      have hhi := h.hi
      rw [← Rat.not_lt, ← mul_TT_lt, Rat.not_lt, hT]
      unfold upB at c ⊢
      by_cases hp : p < 0
      · rw [if_pos hp, dec_t hp, if_neg (fun h => h.1 hp), val_fb (by omega), num_TT, S_true]
        grind
      · rw [if_neg hp, dec_f hp] at *
        by_cases ha : a = -1
        · rw [if_neg (fun h => h.2 ha), val_fb (by omega), num_TT, S_false]
          have := h.exact.1 ha
          grind
        · rw [if_pos ⟨hp, ha⟩] at c ⊢
          have hkG : k ≠ 9218868437227405311 := fun e => by rw [e] at c; exact c rfl
          rw [val_fb (by omega), num_TT, S_false]
          exact Rat.le_of_lt (hhi.resolve_left hkG)
    rcases Rat.le_iff_lt_or_eq.1 hle with h2 | h2
    · rw [qs_lt h2]; omega
    · rw [qs_eq h2]; omega

theorem dn_up {p : Rat} {k : Nat} {a : Int} (h : Pl p k a) : R (dnB p k a) ≤ R (upB p k a) := by
  have hk := h.le
  unfold dnB upB
  rw [R_fb (by split <;> omega), R_fb (by split <;> omega)]
  by_cases hp : p < 0
  · rw [dec_t hp, if_pos rfl, if_pos rfl, if_neg (fun h : ¬ p < 0 ∧ a ≠ -1 => h.1 hp)]
    split <;> omega
  · rw [dec_f hp, if_neg (show ¬ (false = true) by simp), if_neg (show ¬ (false = true) by simp), if_neg (fun h : p < 0 ∧ a ≠ -1 => hp h.1)]
    split <;> omega

theorem around_hs {p : Rat} {k : Nat} {a : Int} (h : Pl p k a) : Hs (dnB p k a, upB p k a) p :=
  ⟨⟨(dnB_lt h).2.1, (upB_lt h).2.1, dn_up h, (dnB_lt h).2.2, (upB_lt h).2.2⟩, dn_le h, up_ge h⟩

theorem sameSpan_self (a : Nat × Nat) : Ev (fun f => law04_sameSpan.f f a a) true := by
  unfold law04_sameSpan.f law04_sameSpan.e
  exact Ev.bind (same_self _) (Ev.tru rfl (Ev.bind (same_self _) Ev.pure))

abbrev tySpan : Ty := .st (.pair .flt .flt)
end Go.FK
