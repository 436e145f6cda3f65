import Derived.Test.YtaggjlegalmiaaaM4

/- What Nearest, Down, Up are among the floats: nearest, monotone, beside one another. No program in sight. -/
namespace Go.FK
open Flt

theorem fb_mod {s : Bool} {k : Nat} (hk : k < 9223372036854775808) : fb s k % 9223372036854775808 = k := by unfold fb; split <;> omega
theorem fb_sign {s : Bool} {k : Nat} (hk : k < 9223372036854775808) : (fb s k / 9223372036854775808 % 2 == 1) = s := by
  unfold fb
  cases s
  · rw [if_neg (by simp), show k / 9223372036854775808 = 0 by omega]; rfl
  · rw [if_pos rfl, show (k + 9223372036854775808) / 9223372036854775808 = 1 by omega]; rfl
theorem fb_lt {s : Bool} {k : Nat} (hk : k < 9223372036854775808) : fb s k < 18446744073709551616 := by unfold fb; split <;> omega
theorem R_fb {s : Bool} {k : Nat} (hk : k < 9223372036854775808) : R (fb s k) = if s = true then -(k : Int) else (k : Int) := by
  unfold R
  rw [fb_mod hk]
  have := fb_sign (s := s) hk
  cases s
  · rw [beq_eq_false_iff_ne] at this; rw [if_neg this, if_neg (by simp)]
  · rw [beq_iff_eq] at this; rw [if_pos this, if_pos rfl]
theorem isN_fb {s : Bool} {k : Nat} (hk : k ≤ 9218868437227405312) : isN (fb s k) = false := by unfold isN; rw [fb_mod (by omega)]; exact dec_f (by omega)
theorem fin_fb {s : Bool} {k : Nat} (hk : k < 9223372036854775808) : Fin (fb s k) ↔ k ≤ 9218868437227405311 := by unfold Fin; rw [fb_mod hk]
theorem val_fb {s : Bool} {k : Nat} (hk : k < 9223372036854775808) : val (fb s k) = num s k := by unfold val; rw [fb_mod hk, fb_sign hk]
theorem num_TT (s : Bool) (k : Nat) : num s k * (TT : Rat) = (S s k : Rat) := div_mul
theorem S_false (k : Nat) : ((S false k : Int) : Rat) = (U k : Rat) := by unfold S; rw [if_neg (by simp)]; rfl
theorem S_true (k : Nat) : ((S true k : Int) : Rat) = -(U k : Rat) := by unfold S; rw [if_pos rfl, Rat.intCast_neg]; rfl

theorem abs_if (x : Rat) : x.abs = if x < 0 then -x else x := by
  split
  · exact Rat.abs_of_nonpos (Rat.le_of_lt ‹_›)
  · exact Rat.abs_of_nonneg (Rat.not_lt.1 ‹_›)
theorem mul_TT_lt {a b : Rat} : a * (TT : Rat) < b * (TT : Rat) ↔ a < b := Rat.mul_lt_mul_right TT_posR
theorem mul_TT_eq {a b : Rat} : a * (TT : Rat) = b * (TT : Rat) ↔ a = b := by
  constructor
  · intro h
    rcases (show a < b ∨ a = b ∨ b < a by grind) with h1 | h1 | h1
    · have := mul_TT_lt.2 h1; rw [h] at this; exact absurd this Rat.lt_irrefl
    · exact h1
    · have := mul_TT_lt.2 h1; rw [h] at this; exact absurd this Rat.lt_irrefl
  · intro h; rw [h]
theorem sub_TT (a b : Rat) : (a - b) * (TT : Rat) = a * (TT : Rat) - b * (TT : Rat) := by rw [Rat.sub_eq_add_neg, Rat.add_mul, Rat.neg_mul, ← Rat.sub_eq_add_neg]
theorem abs_TT (x : Rat) : x.abs * (TT : Rat) = (x * (TT : Rat)).abs := by
  rw [abs_if, abs_if]
  have h : x * (TT : Rat) < 0 ↔ x < 0 := by
    have := mul_TT_lt (a := x) (b := 0)
    rw [Rat.zero_mul] at this
    exact this
  by_cases c : x < 0
  · rw [if_pos c, if_pos (h.2 c), Rat.neg_mul]
  · rw [if_neg c, if_neg (fun h' => c (h.1 h'))]
theorem Pl_sign {p : Rat} : p * (TT : Rat) = if p < 0 then -(p.abs * (TT : Rat)) else p.abs * (TT : Rat) := by
  rw [abs_if]
  split
  · rw [Rat.neg_mul, Rat.neg_neg]
  · rfl

theorem At.cases {y : Rat} {k : Nat} {a : Int} (h : At y k a) : a = -1 ∨ a = 0 ∨ a = 1 ∨ a = 2 := by
  rcases h.at_ with ⟨h1, _⟩ | ⟨h1, _⟩ | ⟨h1, _⟩ | ⟨h1, _⟩ <;> omega

/-- What is greater stands no lower. -/
theorem At.mono {y y' : Rat} {k k' : Nat} {a a' : Int} (h : At y k a) (g : At y' k' a') (hy : y ≤ y') : k < k' ∨ (k = k' ∧ a ≤ a') := by
  by_cases c : k < k'
  · exact Or.inl c
  · right
    have e : k = k' := by
      apply Classical.byContradiction
      intro hne
      have h1 := g.hi
      have h2 := h.le
      rcases h1 with h1 | h1
      · omega
      · have h3 : U (k' + 1) ≤ U k := U_mono (by omega)
        have h4 : (U (k' + 1) : Rat) ≤ U k := by exact_mod_cast h3
        have h5 := h.lo
        grind
    subst e
    refine ⟨rfl, ?_⟩
    have h3 := h.at_
    have h4 := g.at_
    grind

/-- Nothing is nearer. -/
theorem At.best {y : Rat} {k : Nat} {a : Int} (h : At y k a) (hm : nr k a ≤ 9218868437227405311) {F : Rat} (hF : F ≤ (U k : Rat) ∨ (k ≠ 9218868437227405311 ∧ (U (k + 1) : Rat) ≤ F)) :
    ((U (nr k a) : Rat) - y).abs < (F - y).abs ∨ (((U (nr k a) : Rat) - y).abs = (F - y).abs ∧ (F = (U (nr k a) : Rat) ∨ nr k a % 2 = 0)) := by
  have hat := h.at_
  have hlo := h.lo
  have hhi := h.hi
  unfold nr at *
  by_cases c : a = 2 ∨ (a = 1 ∧ k % 2 = 1)
  · rw [if_pos c] at *
    have hk : k ≠ 9218868437227405311 := by omega
    have hhi' := hhi.resolve_left hk
    have h1 : ((U (k + 1) : Rat) - y).abs = (U (k + 1) : Rat) - y := Rat.abs_of_nonneg (by grind)
    rw [h1]
    rcases hF with hF | ⟨_, hF⟩
    · have h2 : (F - y).abs = y - F := by rw [Rat.abs_of_nonpos (by grind)]; grind
      rw [h2]
      rcases c with c | ⟨c, c2⟩
      · left
        rcases hat with ⟨h3, _⟩ | ⟨h3, _⟩ | ⟨h3, _⟩ | ⟨_, _, h3⟩
        · omega
        · omega
        · omega
        · grind
      · rcases hat with ⟨h3, _⟩ | ⟨h3, _⟩ | ⟨_, _, h3⟩ | ⟨h3, _⟩
        · omega
        · omega
        · have c3 : (k + 1) % 2 = 0 := by omega
          rcases (show F < (U k : Rat) ∨ F = (U k : Rat) by grind) with h4 | h4
          · left; grind
          · right; exact ⟨by grind, Or.inr c3⟩
        · omega
    · have h2 : (F - y).abs = F - y := Rat.abs_of_nonneg (by grind)
      rw [h2]
      rcases (show (U (k + 1) : Rat) < F ∨ F = (U (k + 1) : Rat) by grind) with h4 | h4
      · left; grind
      · right; exact ⟨by grind, Or.inl h4⟩
  · rw [if_neg c] at *
    have h1 : ((U k : Rat) - y).abs = y - (U k : Rat) := by rw [Rat.abs_of_nonpos (by grind)]; grind
    rw [h1]
    rcases hF with hF | ⟨hk, hF⟩
    · have h2 : (F - y).abs = y - F := by rw [Rat.abs_of_nonpos (by grind)]; grind
      rw [h2]
      rcases (show F < (U k : Rat) ∨ F = (U k : Rat) by grind) with h4 | h4
      · left; grind
      · right; exact ⟨by grind, Or.inl h4⟩
    · have hhi' := hhi.resolve_left hk
      have h2 : (F - y).abs = F - y := Rat.abs_of_nonneg (by grind)
      rw [h2]
      rcases hat with ⟨h3, h4⟩ | ⟨h3, _, h4⟩ | ⟨h3, _, h4⟩ | ⟨h3, _⟩
      · left; grind
      · left; grind
      · have c3 : k % 2 = 0 := by omega
        rcases (show (U (k + 1) : Rat) < F ∨ F = (U (k + 1) : Rat) by grind) with h5 | h5
        · left; grind
        · right; exact ⟨by grind, Or.inr c3⟩
      · omega

theorem split_at {k j : Nat} (hj : j ≤ 9218868437227405311) : (U j : Rat) ≤ (U k : Rat) ∨ (k ≠ 9218868437227405311 ∧ (U (k + 1) : Rat) ≤ (U j : Rat)) ∨ 9218868437227405311 < k := by
  by_cases h : j ≤ k
  · left
    have := U_mono h
    exact_mod_cast this
  · by_cases hk : 9218868437227405311 < k
    · exact Or.inr (Or.inr hk)
    · right; left
      refine ⟨by omega, ?_⟩
      have := U_mono (show k + 1 ≤ j by omega)
      exact_mod_cast this

theorem U_nonneg (k : Nat) : (0 : Rat) ≤ (U k : Rat) := Rat.natCast_nonneg

/-- The same of a number with its sign, and of any finite float. -/
theorem Pl.best {p : Rat} {k : Nat} {a : Int} (h : Pl p k a) (hm : nr k a ≤ 9218868437227405311) {x : Nat} (hf : Fin x) :
    (val (nrB p k a) - p).abs < (val x - p).abs ∨ ((val (nrB p k a) - p).abs = (val x - p).abs ∧ (val x = val (nrB p k a) ∨ nr k a % 2 = 0)) := by
  have hk := h.lt
  have hnr : nr k a < 9223372036854775808 := by omega
  have hv : val (nrB p k a) = num (decide (p < 0)) (nr k a) := by unfold nrB; exact val_fb hnr
  rw [hv, ← mul_TT_lt, ← mul_TT_eq (a := (num _ _ - p).abs), ← mul_TT_eq (a := val x), abs_TT, abs_TT, sub_TT, sub_TT, num_TT, Pl_sign]
  have hj : x % 9223372036854775808 ≤ 9218868437227405311 := hf
  have hvx : val x * (TT : Rat) = ((S (x / 9223372036854775808 % 2 == 1) (x % 9223372036854775808) : Int) : Rat) := num_TT _ _
  rw [hvx]
  generalize (x / 9223372036854775808 % 2 == 1) = s
  generalize x % 9223372036854775808 = j at *
  have hle := h.le
  have hsp := (split_at (k := k) hj)
  have u0 := U_nonneg k
  have u1 := U_nonneg j
  have key : ∀ F : Rat, (F = (U j : Rat) ∨ F = -(U j : Rat)) → (F ≤ (U k : Rat) ∨ (k ≠ 9218868437227405311 ∧ (U (k + 1) : Rat) ≤ F)) := by
    rintro F (rfl | rfl)
    · rcases hsp with h1 | h1 | h1
      · exact Or.inl h1
      · exact Or.inr h1
      · omega
    · left; grind
  by_cases hp : p < 0
  · rw [dec_t hp, if_pos hp, S_true]
    have e : ∀ F : Rat, (F - -(p.abs * (TT : Rat))).abs = (-F - p.abs * (TT : Rat)).abs := fun F => by
      rw [← Rat.abs_neg]
      congr 1
      grind
    rw [e, e, Rat.neg_neg]
    have := At.best h hm (key (-((S s j : Int) : Rat)) (by cases s <;> simp [S_true, S_false]))
    rcases this with h1 | ⟨h1, h2 | h2⟩
    · exact Or.inl h1
    · exact Or.inr ⟨h1, Or.inl (by grind)⟩
    · exact Or.inr ⟨h1, Or.inr h2⟩
  · rw [dec_f hp, if_neg hp, S_false]
    exact At.best h hm (key ((S s j : Int) : Rat) (by cases s <;> simp [S_true, S_false]))

theorem nr_le {k : Nat} {a : Int} : nr k a ≤ k + 1 ∧ k ≤ nr k a := by unfold nr; split <;> omega

theorem nr_mono {k : Nat} {a a' : Int} (h : a ≤ a') (ha' : a' ≤ 2) : nr k a ≤ nr k a' := by unfold nr; split <;> split <;> omega

theorem val_eq_R {x y : Nat} (h : val x = val y) : R x = R y := by
  unfold val at h
  rw [← mul_TT_eq, num_TT, num_TT] at h
  have h' : S (x / 9223372036854775808 % 2 == 1) (x % 9223372036854775808) = S (y / 9223372036854775808 % 2 == 1) (y % 9223372036854775808) := by exact_mod_cast h
  have c := S_le (x / 9223372036854775808 % 2 == 1) (y / 9223372036854775808 % 2 == 1) (x % 9223372036854775808) (y % 9223372036854775808)
  rw [h'] at c
  have c2 : compare (S (y / 9223372036854775808 % 2 == 1) (y % 9223372036854775808)) (S (y / 9223372036854775808 % 2 == 1) (y % 9223372036854775808)) = Ordering.eq := by
    rw [cmpI, if_neg (by omega), if_pos rfl]
  rw [c2] at c
  have c3 := c.symm
  rw [cmpI] at c3
  unfold R
  simp only [beq_iff_eq] at c3
  by_cases hlt : (if x / 9223372036854775808 % 2 = 1 then -((x % 9223372036854775808 : Nat) : Int) else ((x % 9223372036854775808 : Nat) : Int)) < (if y / 9223372036854775808 % 2 = 1 then -((y % 9223372036854775808 : Nat) : Int) else ((y % 9223372036854775808 : Nat) : Int))
  · rw [if_pos hlt] at c3; cases c3
  · rw [if_neg hlt] at c3
    by_cases heq : (if x / 9223372036854775808 % 2 = 1 then -((x % 9223372036854775808 : Nat) : Int) else ((x % 9223372036854775808 : Nat) : Int)) = (if y / 9223372036854775808 % 2 = 1 then -((y % 9223372036854775808 : Nat) : Int) else ((y % 9223372036854775808 : Nat) : Int))
    · exact heq
    · rw [if_neg heq] at c3; cases c3

end Go.FK


/- ApproxTies, ApproxNear, ApproxBeside, ApproxRises, ApproxMiddles. -/
namespace Go.FK
open Flt
set_option exponentiation.threshold 5000

theorem At.mk_pl {p : Rat} (h0 : ¬ p < 0) {k : Nat} {a : Int} (h : At (p * (TT : Rat)) k a) : Pl p k a := by
  show At (p.abs * (TT : Rat)) k a
  rw [abs_if, if_neg h0]
  exact h

theorem LQ_nat (n : Nat) : LQ (n : Rat) = FK.L n + 1 := by
  unfold LQ
  rw [Rat.num_natCast, Rat.den_natCast, L_one]
  rfl

/-! ### Ties -/
theorem ties_ev {x : Nat} (hx : x < 18446744073709551616) : Ev (fun f => law04_ApproxTies.f f (x : Int)) true := by
  unfold law04_ApproxTies.f law04_ApproxTies.e
  rw [bits_clear hx]
  have hk : x % 9223372036854775808 < 9223372036854775808 := by omega
  generalize x % 9223372036854775808 = k at *
  by_cases c : k ≥ 9218868437227405311
  · exact Ev.tru (dec_t (by omega)) Ev.pure
  · refine Ev.fls (dec_f (by omega)) ?_
    have e1 : (k : Int) + 1 = ((k + 1 : Nat) : Int) := by omega
    have e2 : Int.tmod (k : Int) 2 = ((k % 2 : Nat) : Int) := by rw [Int.tmod_eq_emod_of_nonneg (by omega)]; omega
    have e3 : (k : Int) + ((k % 2 : Nat) : Int) = ((k + k % 2 : Nat) : Int) := by omega
    rw [e1, w64n (by omega), e2, e3, w64n (by omega), bits_set' (by omega)]
    have l1 : LQ (num false k) ≤ 250 := LQ_numk (by omega)
    have l2 : LQ (num false (k + 1)) ≤ 250 := LQ_numk (by omega)
    have hsum := (Rt.of l1).radd (Rt.of l2) (by omega) (by omega)
    have lsum := LQ_add (num false k) (num false (k + 1))
    have n2 : Nt 2000 [2] 2 := ⟨Lim.mk (by simp [B]) Lim.nil, by simp [V], by simp⟩
    have r2 : Rt 2000 ((false, [2]), [1]) (2 : Rat) := by
      have := Rt.mk2 (Zt.pos n2) (one_nt (M := 2000) (by omega))
      rw [mkRat_one] at this
      exact this
    have hne : (2 : Rat) ≠ 0 := by decide
    have hdiv := (Rt.of (M := 2000) (q := num false k + num false (k + 1)) (by omega)).rdiv r2 (by omega) (by omega) hne
    have l3 : LQ (2 : Rat)⁻¹ ≤ 3 := by
      have h1 := LQ_inv (2 : Rat)
      have h2 : LQ (2 : Rat) = FK.L 2 + 1 := LQ_nat 2
      have h3 : FK.L 2 ≤ 1 := L_small (by omega)
      omega
    have l4 := LQ_mul (num false k + num false (k + 1)) (2 : Rat)⁻¹
    have hTT : (num false k + num false (k + 1)) * (2 : Rat)⁻¹ * (TT : Rat) * 2 = (U k : Rat) + (U (k + 1) : Rat) := by
      have h1 : (num false k + num false (k + 1)) * (2 : Rat)⁻¹ * (TT : Rat) * 2 = (num false k * (TT : Rat) + num false (k + 1) * (TT : Rat)) * ((2 : Rat)⁻¹ * 2) := by grind
      rw [h1, num_TT, num_TT, S_false, S_false, Rat.inv_mul_cancel _ hne, Rat.mul_one]
    generalize (num false k + num false (k + 1)) * (2 : Rat)⁻¹ = h at *
    have hu := U_lt_succ k
    have huR : (U k : Rat) < U (k + 1) := by exact_mod_cast hu
    have u0 := U_nonneg k
    have hh : 0 < h := by
      rw [← mul_TT_lt, Rat.zero_mul]
      grind
    have hn0 : ¬ h < 0 := by grind
    have hp : Pl h k 1 := At.mk_pl hn0 ⟨by omega, by grind, Or.inr (by grind), Or.inr (Or.inr (Or.inl ⟨rfl, by grind, by grind⟩))⟩
    have hrt : Rt 2000 (rat h) h := Rt.of (by omega)
    have hneg := hrt.rneg (by omega) (by omega)
    have hrn : Rt 2000 (rat (-h)) (-h) := Rt.of (by rw [LQ_neg]; omega)
    have hpn : Pl (-h) k 1 := by
      show At ((-h).abs * (TT : Rat)) k 1
      rw [Rat.abs_neg]
      exact hp
    have en : nr k 1 = k + k % 2 := by
      unfold nr
      by_cases c2 : k % 2 = 1
      · rw [if_pos (Or.inr ⟨rfl, c2⟩)]; omega
      · rw [if_neg (by omega)]; omega
    have v1 := hrt.nearest (by omega) (by omega) hp
    have v2 := hrn.nearest (by omega) (by omega) hpn
    have f1 : nrB h k 1 = k + k % 2 := by unfold nrB fb; rw [dec_f hn0, if_neg (by simp), en]
    have f2 : nrB (-h) k 1 = k + k % 2 + 9223372036854775808 := by unfold nrB fb; rw [dec_t (by grind), if_pos rfl, en]
    rw [f1] at v1
    rw [f2] at v2
    refine Ev.bind (amount_ev (by omega)) (Ev.bind (amount_ev (by omega)) (Ev.bind hsum (Ev.bind hdiv (Ev.bind (frombits _) (Ev.bind v1 (Ev.bind (same_self _) (Ev.fls rfl ?_)))))))
    exact Ev.bind hneg (Ev.bind v2 (Ev.bind (frombits _) (Ev.bind (same_self _) Ev.pure)))

/-! ### Near -/
theorem nrB_lt {p : Rat} {k : Nat} {a : Int} (h : Pl p k a) : nrB p k a < 18446744073709551616 := by
  unfold nrB
  have := h.le
  have := nr_le (k := k) (a := a)
  exact fb_lt (by omega)

theorem near_p7 {M : Nat} {r : RR} {p : Rat} (hr : Rt M r p) (h1 : 1 ≤ M) (hM : M ≤ 1000000000) {x : Nat} (hx : x < 18446744073709551616) (hf : Fin x) : Ev (fun f => law04_ApproxNear.p7 f r x) true := by
  obtain ⟨k, a, h, _⟩ := hr.pl h1 (by omega)
  have hk := h.le
  have hnl := nr_le (k := k) (a := a)
  have hnb := nrB_lt h
  have hmod : nrB p k a % 9223372036854775808 = nr k a := by unfold nrB; exact fb_mod (by omega)
  have hfin := finite_ev hnb
  refine Ev.turn (fun f => law04_ApproxNear.p7_succ f _ _) ?_
  unfold law04_ApproxNear.e7
  refine Ev.bind (hr.nearest h1 (by omega) h) (Ev.bind hfin ?_)
  by_cases c : nr k a ≤ 9218868437227405311
  · have hfn : Fin (nrB p k a) := by unfold Fin; rw [hmod]; exact c
    refine Ev.fls (by rw [fin_iff.2 hfn]; rfl) ?_
    have lp := hr.LQ h1
    have lv := LQ_val hfn
    have lx := LQ_val hf
    have s1 := LQ_sub (val (nrB p k a)) p
    have s2 := LQ_sub (val x) p
    have hr' : Rt (M + 250) r p := hr.mono (by omega)
    have a1 := (Rt.of (M := M + 250) (q := val (nrB p k a)) (by omega)).rsub hr' (by omega) (by omega)
    have a2 := (Rt.of (M := 4 * M + 2000) (q := val (nrB p k a) - p) (by omega)).rabs (by omega) (by omega)
    have b1 := (Rt.of (M := M + 250) (q := val x) (by omega)).rsub hr' (by omega) (by omega)
    have b2 := (Rt.of (M := 4 * M + 2000) (q := val x - p) (by omega)).rabs (by omega) (by omega)
    have cc := (Rt.of (M := 4 * M + 2000) (q := (val (nrB p k a) - p).abs) (by rw [LQ_abs]; omega)).rcmp (Rt.of (M := 4 * M + 2000) (q := (val x - p).abs) (by rw [LQ_abs]; omega)) (by omega) (by omega)
    refine Ev.bind (lnumber_ev hnb hfn) (Ev.bind a1 (Ev.bind a2 (Ev.bind (lnumber_ev hx hf) (Ev.bind b1 (Ev.bind b2 (Ev.bind cc ?_))))))
    rcases h.best c hf with h2 | ⟨h2, h3⟩
    · exact Ev.tru (dec_t (qs_neg.2 h2)) Ev.pure
    · have hq := qs_eq h2
      refine Ev.fls (dec_f (by omega)) (Ev.tru (dec_t hq) ?_)
      by_cases ce : R (nrB p k a) = R x
      · exact Ev.tru (by rw [fEq_eq hfn.nan hf.nan, dec_t ce]) Ev.pure
      · refine Ev.fls (by rw [fEq_eq hfn.nan hf.nan, dec_f ce]) ?_
        have h4 : nr k a % 2 = 0 := h3.resolve_left fun e => ce (val_eq_R e).symm
        unfold math_Float64bits.f
        refine Ev.bind Ev.pure ?_
        rw [Int.tmod_eq_emod_of_nonneg (by omega), dec_t (by omega)]
        exact Ev.pure
  · have hi : nr k a = 9218868437227405312 := by omega
    have hnf : ¬ Fin (nrB p k a) := by unfold Fin; rw [hmod]; exact c
    have hff : (!isN (nrB p k a) && !isI (nrB p k a)) = false := by
      cases hh : (!isN (nrB p k a) && !isI (nrB p k a))
      · rfl
      · exact absurd (fin_iff.1 hh) hnf
    refine Ev.tru (by rw [hff]; rfl) ?_
    have hka : k = 9218868437227405311 ∧ a ≠ -1 := by
      unfold nr at hi
      split at hi
      · exact ⟨by omega, by omega⟩
      · omega
    obtain ⟨hkG, ha⟩ := hka
    have lp := hr.LQ h1
    have hab : Rt (2 * M) (rat p.abs) p.abs := Rt.of (by rw [LQ_abs]; exact lp)
    have hpa : Pl p.abs k a := by
      show At (p.abs.abs * (TT : Rat)) k a
      rw [abs_abs]
      exact h
    have hup := hab.rup (by omega) hpa
    have hn0 : ¬ p.abs < 0 := Rat.not_lt.2 Rat.abs_nonneg
    have eu : upB p.abs k a = 9218868437227405312 := by
      unfold upB fb
      rw [dec_f hn0, if_neg (by simp), if_pos ⟨hn0, ha⟩, hkG]
    rw [eu] at hup
    have hfu := finite_ev (x := 9218868437227405312) (by omega)
    rw [show (!isN 9218868437227405312 && !isI 9218868437227405312) = false by decide] at hfu
    have hNn : isN (nrB p k a) = false := by unfold isN; rw [hmod, hi]; decide
    refine Ev.bind (hr.rabs h1 (by omega)) (Ev.bind hup (Ev.bind hfu (Ev.tru rfl ?_)))
    unfold math_Float64bits.f
    refine Ev.bind Ev.pure (Ev.bind (risNaN_ev hnb) (Ev.tru (by rw [hNn]; rfl) (Ev.bind (hr.rsign h1 (by omega)) ?_)))
    have hR : R (nrB p k a) = if decide (p < 0) = true then -(9218868437227405312 : Int) else 9218868437227405312 := by
      unfold nrB
      rw [hi, R_fb (by omega)]
      rfl
    have : (fGt (nrB p k a) 0 == decide (p.num.sign > 0)) = true := by
      rw [fGt_eq hNn isN_zero, R_zero, beq_iff_eq]
      apply decide_eq_decide.2
      rw [num_sign_pos, hR]
      by_cases hp : p < 0
      · rw [dec_t hp, if_pos rfl]
        constructor
        · intro h; omega
        · intro h; grind
      · rw [dec_f hp, if_neg (by simp)]
        constructor
        · intro _
          rcases Rat.le_iff_lt_or_eq.1 (Rat.not_lt.1 hp) with h3 | h3
          · exact h3
          · rw [← h3] at h
            exact absurd h.zero.2 ha
        · intro _; omega
    rw [this]
    exact Ev.pure

theorem near_ev {M : Nat} {r : RR} {p : Rat} (hr : Rt M r p) (h1 : 1 ≤ M) (hM : M ≤ 1000000000) {x : Nat} (hx : x < 18446744073709551616) : Ev (fun f => law04_ApproxNear.f f r x) true := by
  unfold law04_ApproxNear.f law04_ApproxNear.e
  refine Ev.bind (finite_ev hx) ?_
  by_cases hf : Fin x
  · exact Ev.fls (by rw [fin_iff.2 hf]; rfl) (near_p7 hr h1 hM hx hf)
  · have : (!isN x && !isI x) = false := by
      cases hh : (!isN x && !isI x)
      · rfl
      · exact absurd (fin_iff.1 hh) hf
    exact Ev.tru (by rw [this]; rfl) (near_p7 hr h1 hM (by omega) (by unfold Fin; omega))

/-! ### Beside -/
theorem Pl.above {p : Rat} {k : Nat} {a : Int} (h : Pl p k a) (ha : a ≠ -1) : (U k : Rat) < p.abs * (TT : Rat) := by
  rcases h.at_ with ⟨h1, _⟩ | ⟨_, h1, _⟩ | ⟨_, h1, _⟩ | ⟨_, h1, _⟩
  · exact absurd h1 ha
  all_goals exact h1

theorem fle {s : Bool} {j i : Nat} (hj : j ≤ 9218868437227405312) (hi : i ≤ 9218868437227405312) (h1 : s = true → i ≤ j) (h2 : s = false → j ≤ i) : (fLt (fb s j) (fb s i) || fEq (fb s j) (fb s i)) = true := by
  have n1 : isN (fb s j) = false := isN_fb hj
  have n2 : isN (fb s i) = false := isN_fb hi
  have r1 : R (fb s j) = if s = true then -(j : Int) else j := R_fb (by omega)
  have r2 : R (fb s i) = if s = true then -(i : Int) else i := R_fb (by omega)
  rw [fLt_eq n1 n2, fEq_eq n1 n2, r1, r2, Bool.or_eq_true, decide_eq_true_eq, decide_eq_true_eq]
  cases s
  · have := h2 rfl
    rw [if_neg (by simp), if_neg (by simp)]; omega
  · have := h1 rfl
    rw [if_pos rfl, if_pos rfl]; omega
theorem feq_same {s : Bool} {j : Nat} (hj : j ≤ 9218868437227405312) : fEq (fb s j) (fb s j) = true := by
  have n1 : isN (fb s j) = false := isN_fb hj
  rw [fEq_eq n1 n1, dec_t rfl]
theorem feq_not {s : Bool} {j i : Nat} (hj : j ≤ 9218868437227405312) (hi : i ≤ 9218868437227405312) (h : j ≠ i) : fEq (fb s j) (fb s i) = false := by
  have n1 : isN (fb s j) = false := isN_fb hj
  have n2 : isN (fb s i) = false := isN_fb hi
  have r1 : R (fb s j) = if s = true then -(j : Int) else j := R_fb (by omega)
  have r2 : R (fb s i) = if s = true then -(i : Int) else i := R_fb (by omega)
  rw [fEq_eq n1 n2, r1, r2]
  apply dec_f
  cases s
  · rw [if_neg (by simp), if_neg (by simp)]; omega
  · rw [if_pos rfl, if_pos rfl]; omega
theorem nx_up {k : Nat} (hk : k ≤ 9218868437227405311) : nx (fb false k) = (fb false (k + 1), 0) := by
  have n1 : isN (fb false k) = false := isN_fb (by omega)
  unfold nx
  rw [n1, if_neg (by simp)]
  show (if k = 9218868437227405312 then _ else _) = _
  rw [if_neg (by omega)]
  show (if k = 9223372036854775808 then _ else _) = _
  rw [if_neg (by omega)]
  show (if 9223372036854775808 ≤ k then _ else _) = _
  rw [if_neg (by omega)]
  rfl
theorem nx_down {k : Nat} (hk : k ≤ 9218868437227405311) : nx (fb true (k + 1)) = (fb true k, 0) := by
  have n1 : isN (fb true (k + 1)) = false := isN_fb (by omega)
  have e1 : fb true (k + 1) = k + 1 + 9223372036854775808 := rfl
  have e2 : fb true k = k + 9223372036854775808 := rfl
  unfold nx
  rw [n1, if_neg (by simp), e1, e2, if_neg (by omega), if_neg (by omega), if_pos (by omega), show k + 1 + 9223372036854775808 - 1 = k + 9223372036854775808 by omega]

theorem beside_ev {M : Nat} {r : RR} {p : Rat} (hr : Rt M r p) (h1 : 1 ≤ M) (hM : M ≤ 1000000000) : Ev (fun f => law04_ApproxBeside.f f r) true := by
  obtain ⟨k, a, h, _⟩ := hr.pl h1 (by omega)
  have hk := h.le
  have hnl := nr_le (k := k) (a := a)
  have lp := hr.LQ h1
  -- the three in one shape
  obtain ⟨s, hs⟩ : ∃ s, decide (p < 0) = s := ⟨_, rfl⟩
  obtain ⟨d, hd⟩ : ∃ d : Nat, d = (if p < 0 ∧ a ≠ -1 then k + 1 else k) := ⟨_, rfl⟩
  obtain ⟨u, hu⟩ : ∃ u : Nat, u = (if ¬ p < 0 ∧ a ≠ -1 then k + 1 else k) := ⟨_, rfl⟩
  have eD : dnB p k a = fb s d := by unfold dnB; rw [hs, hd]
  have eU : upB p k a = fb s u := by unfold upB; rw [hs, hu]
  have eN : nrB p k a = fb s (nr k a) := by unfold nrB; rw [hs]
  have hdl : d ≤ 9218868437227405312 := by rw [hd]; split <;> omega
  have hul : u ≤ 9218868437227405312 := by rw [hu]; split <;> omega
  have vD := hr.down h1 (by omega) h
  have vU := hr.up h1 (by omega) h
  have vN := hr.nearest h1 (by omega) h
  rw [eD] at vD
  rw [eU] at vU
  rw [eN] at vN
  -- what is known
  have hA : (a = -1 ∧ d = k ∧ u = k ∧ nr k a = k) ∨ (a ≠ -1 ∧ s = true ∧ d = k + 1 ∧ u = k) ∨ (a ≠ -1 ∧ s = false ∧ d = k ∧ u = k + 1) := by
    by_cases ha : a = -1
    · left
      refine ⟨ha, by rw [hd, if_neg (fun h => h.2 ha)], by rw [hu, if_neg (fun h => h.2 ha)], ?_⟩
      unfold nr
      rw [if_neg (by omega)]
    · right
      by_cases hp : p < 0
      · left
        exact ⟨ha, by rw [← hs, dec_t hp], by rw [hd, if_pos ⟨hp, ha⟩], by rw [hu, if_neg (fun h => h.1 hp)]⟩
      · right
        exact ⟨ha, by rw [← hs, dec_f hp], by rw [hd, if_neg (fun h => hp h.1)], by rw [hu, if_pos ⟨hp, ha⟩]⟩
  have hO : (s = true → u ≤ nr k a ∧ nr k a ≤ d) ∧ (s = false → d ≤ nr k a ∧ nr k a ≤ u) ∧ (nr k a = d ∨ nr k a = u) := by
    rcases hA with ⟨_, h2, h3, h4⟩ | ⟨_, h2, h3, h4⟩ | ⟨_, h2, h3, h4⟩
    · rw [h2, h3, h4]
      exact ⟨fun _ => ⟨Nat.le_refl _, Nat.le_refl _⟩, fun _ => ⟨Nat.le_refl _, Nat.le_refl _⟩, Or.inl rfl⟩
    · rw [h2, h3, h4]
      refine ⟨fun _ => ⟨hnl.2, hnl.1⟩, (fun h => by cases h), by omega⟩
    · rw [h2, h3, h4]
      refine ⟨(fun h => by cases h), fun _ => ⟨hnl.2, hnl.1⟩, by omega⟩
  have c1 := fle (s := s) (j := d) (i := nr k a) hdl (by omega) (fun h => (hO.1 h).2) (fun h => (hO.2.1 h).1)
  have c2 := fle (s := s) (j := nr k a) (i := u) (by omega) hul (fun h => (hO.1 h).1) (fun h => (hO.2.1 h).2)
  have c3 : fEq (fb s (nr k a)) (fb s d) = true ∨ fEq (fb s (nr k a)) (fb s u) = true := by
    rcases hO.2.2 with h2 | h2
    · left; rw [h2]; exact feq_same hdl
    · right; rw [h2]; exact feq_same hul
  have cmpv : ∀ j : Nat, j ≤ 9218868437227405311 → Ev (fun f => law04_number.f f (fb s j)) (rat (num s j)) ∧ Ev (fun f => ref03_Cmp.f f (rat (num s j)) r) (qs (num s j) p) := fun j hj => by
    have hn := lnumber_ev (x := fb s j) (fb_lt (by omega)) ((fin_fb (by omega)).2 hj)
    rw [val_fb (by omega)] at hn
    have lv : LQ (num s j) ≤ 250 := LQ_numk (by omega)
    exact ⟨hn, (Rt.of (M := M + 250) (q := num s j) (by omega)).rcmp (hr.mono (by omega)) (by omega) (by omega)⟩
  have hpT : p * (TT : Rat) = if s = true then -(p.abs * (TT : Rat)) else p.abs * (TT : Rat) := by
    rw [Pl_sign, ← hs]
    by_cases hp : p < 0
    · rw [if_pos hp, dec_t hp, if_pos rfl]
    · rw [if_neg hp, dec_f hp, if_neg (by simp)]
  have low : ∀ j : Nat, (if s = true then p.abs * (TT : Rat) < (U j : Rat) else (U j : Rat) < p.abs * (TT : Rat)) → num s j < p := fun j hj => by
    rw [← mul_TT_lt, num_TT, hpT]
    cases s
    · rw [S_false]; simpa using hj
    · rw [S_true]; simp only [if_true] at hj ⊢; grind
  have high : ∀ j : Nat, (if s = true then (U j : Rat) < p.abs * (TT : Rat) else p.abs * (TT : Rat) < (U j : Rat)) → p < num s j := fun j hj => by
    rw [← mul_TT_lt, num_TT, hpT]
    cases s
    · rw [S_false]; simpa using hj
    · rw [S_true]; simp only [if_true] at hj ⊢; grind
  have fin_dec : ∀ j : Nat, j ≤ 9218868437227405312 → Ev (fun f => law04_finite.f f (fb s j)) (decide (j ≤ 9218868437227405311)) := fun j hj => by
    have := finite_ev (x := fb s j) (fb_lt (by omega))
    have e : (!isN (fb s j) && !isI (fb s j)) = decide (j ≤ 9218868437227405311) := by
      by_cases c : j ≤ 9218868437227405311
      · rw [dec_t c, fin_iff, fin_fb (by omega)]; exact c
      · rw [dec_f c]
        cases hh : (!isN (fb s j) && !isI (fb s j))
        · rfl
        · exact absurd ((fin_fb (by omega)).1 (fin_iff.1 hh)) c
    rw [e] at this
    exact this
  have p27 : a ≠ -1 → Ev (fun f => law04_ApproxBeside.p27 f r (fb s u)) true := fun ha => by
    refine Ev.turn (fun f => law04_ApproxBeside.p27_succ f _ _) ?_
    unfold law04_ApproxBeside.e27
    refine Ev.bind (fin_dec u hul) ?_
    by_cases c : u ≤ 9218868437227405311
    · refine Ev.fls (by rw [dec_t c]; rfl) ?_
      obtain ⟨k1, k2⟩ := cmpv u c
      refine Ev.bind k1 (Ev.bind k2 ?_)
      have : p < num s u := high u (by
        rcases hA with ⟨h2, _⟩ | ⟨_, h2, _, h3⟩ | ⟨_, h2, _, h3⟩
        · exact absurd h2 ha
        · rw [h2, h3, if_pos rfl]; exact h.above ha
        · rw [h2, h3, if_neg (by simp)]
          exact h.hi.resolve_left (by omega))
      rw [dec_t (by rw [qs_gt this]; omega)]
      exact Ev.pure
    · exact Ev.tru (by rw [dec_f c]; rfl) Ev.pure
  have p13 : Ev (fun f => law04_ApproxBeside.p13 f r (fb s d) (fb s u)) true := by
    refine Ev.turn (fun f => law04_ApproxBeside.p13_succ f _ _ _) ?_
    unfold law04_ApproxBeside.e13
    by_cases ha : a = -1
    · obtain ⟨_, h2, h3, _⟩ := hA.resolve_right (by rintro (⟨h2, _⟩ | ⟨h2, _⟩) <;> exact h2 ha)
      rw [h2, h3]
      refine Ev.tru (feq_same (by omega)) ?_
      obtain ⟨k1, k2⟩ := cmpv k hk
      refine Ev.bind k1 (Ev.bind k2 ?_)
      have hv : num s k = p := by
        have he := h.exact.1 ha
        rw [← mul_TT_eq, num_TT, hpT]
        cases s
        · rw [S_false, if_neg (by simp)]; exact he
        · rw [S_true, if_pos rfl, he]
      rw [dec_t (qs_eq hv)]
      exact Ev.pure
    · have hdu : d ≠ u := by
        rcases hA with ⟨h2, _⟩ | ⟨_, _, h3, h4⟩ | ⟨_, _, h3, h4⟩
        · exact absurd h2 ha
        · omega
        · omega
      refine Ev.fls (feq_not hdl hul hdu) ?_
      have hnx : nx (fb s d) = (fb s u, 0) := by
        rcases hA with ⟨h2, _⟩ | ⟨_, h2, h3, h4⟩ | ⟨_, h2, h3, h4⟩
        · exact absurd h2 ha
        · rw [h2, h3, h4]; exact nx_down hk
        · rw [h2, h3, h4]; exact nx_up hk
      have hn := next_ev (x := fb s d) (fb_lt (by omega))
      rw [hnx] at hn
      refine Ev.bind hn (Ev.fls (by simp) (Ev.fls (by rw [feq_same hul]; rfl) (Ev.bind (fin_dec d hdl) ?_)))
      by_cases c : d ≤ 9218868437227405311
      · refine Ev.tru (dec_t c) ?_
        obtain ⟨k1, k2⟩ := cmpv d c
        refine Ev.bind k1 (Ev.bind k2 ?_)
        have : num s d < p := low d (by
          rcases hA with ⟨h2, _⟩ | ⟨_, h2, h3, _⟩ | ⟨_, h2, h3, _⟩
          · exact absurd h2 ha
          · rw [h2, h3, if_pos rfl]
            exact h.hi.resolve_left (by omega)
          · rw [h2, h3, if_neg (by simp)]; exact h.above ha)
        exact Ev.fls (dec_f (by rw [qs_lt this]; omega)) (p27 ha)
      · exact Ev.fls (dec_f c) (p27 ha)
  unfold law04_ApproxBeside.f law04_ApproxBeside.e
  refine Ev.bind vD (Ev.bind vN (Ev.bind vU (Ev.tru c1 (Ev.fls (by rw [c2]; rfl) ?_))))
  rcases c3 with c3 | c3
  · exact Ev.fls (by rw [c3]; rfl) p13
  · cases c4 : fEq (fb s (nr k a)) (fb s d)
    · exact Ev.tru rfl (Ev.fls (by rw [c3]; rfl) p13)
    · exact Ev.fls rfl p13

/-! ### Rises -/
theorem R_neg_le {s t : Bool} {j i : Nat} (hj : j ≤ 9218868437227405312) (hi : i ≤ 9218868437227405312) (h : (if s = true then -(j : Int) else (j : Int)) ≤ (if t = true then -(i : Int) else (i : Int))) :
    (fLt (fb s j) (fb t i) || fEq (fb s j) (fb t i)) = true := by
  have n1 : isN (fb s j) = false := isN_fb hj
  have n2 : isN (fb t i) = false := isN_fb hi
  have r1 : R (fb s j) = if s = true then -(j : Int) else j := R_fb (by omega)
  have r2 : R (fb t i) = if t = true then -(i : Int) else i := R_fb (by omega)
  rw [fLt_eq n1 n2, fEq_eq n1 n2, r1, r2, Bool.or_eq_true, decide_eq_true_eq, decide_eq_true_eq]
  omega

theorem rises_core {p q : Rat} (hpq : p ≤ q) {k j : Nat} {a b : Int} (hp : Pl p k a) (hq : Pl q j b) :
    (fLt (nrB p k a) (nrB q j b) || fEq (nrB p k a) (nrB q j b)) = true ∧ (fLt (dnB p k a) (dnB q j b) || fEq (dnB p k a) (dnB q j b)) = true ∧ (fLt (upB p k a) (upB q j b) || fEq (upB p k a) (upB q j b)) = true := by
  have hk := hp.le
  have hj := hq.le
  have n1 := nr_le (k := k) (a := a)
  have n2 := nr_le (k := j) (a := b)
  have ca := hp.cases
  have cb := hq.cases
  have d1 : (if p < 0 ∧ a ≠ -1 then k + 1 else k : Nat) ≤ 9218868437227405312 := by split <;> omega
  have d2 : (if q < 0 ∧ b ≠ -1 then j + 1 else j : Nat) ≤ 9218868437227405312 := by split <;> omega
  have u1 : (if ¬ p < 0 ∧ a ≠ -1 then k + 1 else k : Nat) ≤ 9218868437227405312 := by split <;> omega
  have u2 : (if ¬ q < 0 ∧ b ≠ -1 then j + 1 else j : Nat) ≤ 9218868437227405312 := by split <;> omega
  unfold nrB dnB upB
  suffices h : ((if decide (p < 0) = true then -((nr k a : Nat) : Int) else (nr k a : Nat)) ≤ (if decide (q < 0) = true then -((nr j b : Nat) : Int) else (nr j b : Nat))) ∧
      ((if decide (p < 0) = true then -((if p < 0 ∧ a ≠ -1 then k + 1 else k : Nat) : Int) else ((if p < 0 ∧ a ≠ -1 then k + 1 else k : Nat) : Int)) ≤ (if decide (q < 0) = true then -((if q < 0 ∧ b ≠ -1 then j + 1 else j : Nat) : Int) else ((if q < 0 ∧ b ≠ -1 then j + 1 else j : Nat) : Int))) ∧
      ((if decide (p < 0) = true then -((if ¬ p < 0 ∧ a ≠ -1 then k + 1 else k : Nat) : Int) else ((if ¬ p < 0 ∧ a ≠ -1 then k + 1 else k : Nat) : Int)) ≤ (if decide (q < 0) = true then -((if ¬ q < 0 ∧ b ≠ -1 then j + 1 else j : Nat) : Int) else ((if ¬ q < 0 ∧ b ≠ -1 then j + 1 else j : Nat) : Int))) from
    ⟨R_neg_le (by omega) (by omega) h.1, R_neg_le d1 d2 h.2.1, R_neg_le u1 u2 h.2.2⟩
  by_cases h0 : p < 0
  · by_cases h1 : q < 0
    · have hab : q.abs * (TT : Rat) ≤ p.abs * (TT : Rat) := by
        rw [abs_if, abs_if, if_pos h0, if_pos h1]
        exact Rat.mul_le_mul_of_nonneg_right (by grind) (Rat.le_of_lt TT_posR)
      simp only [h0, h1, decide_true, if_true, true_and, not_true_eq_false, false_and, if_false]
      rcases At.mono hq hp hab with hlt | ⟨rfl, hle⟩
      · refine ⟨by omega, ?_, by omega⟩
        split <;> split <;> omega
      · have := nr_mono (k := j) hle (by omega)
        refine ⟨by omega, ?_, by omega⟩
        split <;> split <;> omega
    · simp only [h0, h1, decide_true, decide_false, if_true, Bool.false_eq_true, if_false]
      omega
  · have h1 : ¬ q < 0 := by grind
    have hab : p.abs * (TT : Rat) ≤ q.abs * (TT : Rat) := by
      rw [abs_if, abs_if, if_neg h0, if_neg h1]
      exact Rat.mul_le_mul_of_nonneg_right hpq (Rat.le_of_lt TT_posR)
    simp only [h0, h1, decide_false, Bool.false_eq_true, if_false, false_and, not_false_eq_true, true_and]
    rcases At.mono hp hq hab with hlt | ⟨rfl, hle⟩
    · refine ⟨by omega, by omega, ?_⟩
      split <;> split <;> omega
    · have := nr_mono (k := k) hle (by omega)
      refine ⟨by omega, by omega, ?_⟩
      split <;> split <;> omega

theorem one_at : Pl 1 4607182418800017408 (-1) := by
  refine At.mk_pl (by decide) ?_
  rw [Rat.one_mul]
  have e : U 4607182418800017408 = TT := by
    rw [show (4607182418800017408 : Nat) = 1022 * 4503599627370496 + 4503599627370496 by decide, U_of (Or.inr (by omega)) (by omega)]
    unfold TT
    rw [show (4503599627370496 : Nat) = 2 ^ 52 by decide, ← Nat.pow_add]
  have h2 := U_lt_succ 4607182418800017408
  rw [e] at h2
  exact ⟨by omega, by rw [e]; exact Rat.le_refl, Or.inr (by exact_mod_cast h2), Or.inl ⟨rfl, by rw [e]⟩⟩

theorem rises_p7 {M : Nat} {r s : RR} {p q : Rat} (hr : Rt M r p) (hs : Rt M s q) (h1 : 1 ≤ M) (hM : M ≤ 1000000000) (hpq : p ≤ q) : Ev (fun f => law04_ApproxRises.p7 f r s) true := by
  obtain ⟨k, a, h, _⟩ := hr.pl h1 (by omega)
  obtain ⟨j, b, g, _⟩ := hs.pl h1 (by omega)
  obtain ⟨c1, c2, c3⟩ := rises_core hpq h g
  refine Ev.turn (fun f => law04_ApproxRises.p7_succ f _ _) ?_
  unfold law04_ApproxRises.e7
  have r1 : Rt 10 ((false, [1]), [1]) (1 : Rat) := by
    have := Rt.mk2 (Zt.pos (one_nt (M := 10) (by omega))) (one_nt (M := 10) (by omega))
    rw [mkRat_one] at this
    exact this
  have v1 := r1.nearest (by omega) (by omega) one_at
  have e1 : nrB 1 4607182418800017408 (-1) = 4607182418800017408 := by
    unfold nrB fb nr
    rw [dec_f (by decide), if_neg (by simp), if_neg (by omega)]
  rw [e1] at v1
  have hf1 : Fin 4607182418800017408 := by unfold Fin; omega
  have hval : val 4607182418800017408 = 1 := by
    rw [← mul_TT_eq]
    unfold val
    rw [num_TT, Rat.one_mul]
    have he := one_at.exact.1 rfl
    rw [abs_if, if_neg (by decide), Rat.one_mul] at he
    rw [show (4607182418800017408 / 9223372036854775808 % 2 == 1) = false by decide, show 4607182418800017408 % 9223372036854775808 = 4607182418800017408 by decide, S_false]
    exact he
  have x1 := exact_ev (x := 4607182418800017408) (by omega) hf1
  rw [hval] at x1
  have s1 := (Rt.of (M := 10) (q := 1) (by have := LQ_nat 1; rw [L_one] at this; have e : LQ (1 : Rat) = 2 := this; omega)).rsign (by omega) (by omega)
  refine Ev.bind v1 (Ev.bind x1 (Ev.bind s1 (Ev.tru (by decide) ?_)))
  refine Ev.bind (hr.nearest h1 (by omega) h) (Ev.bind (hs.nearest h1 (by omega) g) (Ev.tru c1 ?_))
  refine Ev.bind (hr.down h1 (by omega) h) (Ev.bind (hs.down h1 (by omega) g) (Ev.tru c2 ?_))
  refine Ev.bind (hr.up h1 (by omega) h) (Ev.bind (hs.up h1 (by omega) g) ?_)
  rw [c3]
  exact Ev.pure

theorem rises_ev {M : Nat} {r s : RR} {p q : Rat} (hr : Rt M r p) (hs : Rt M s q) (h1 : 1 ≤ M) (hM : M ≤ 1000000000) : Ev (fun f => law04_ApproxRises.f f r s) true := by
  unfold law04_ApproxRises.f law04_ApproxRises.e
  refine Ev.bind (hr.rcmp hs h1 (by omega)) ?_
  by_cases h : q < p
  · exact Ev.tru (dec_t (by rw [qs_gt h]; omega)) (rises_p7 hs hr h1 hM (Rat.le_of_lt h))
  · refine Ev.fls (dec_f ?_) (rises_p7 hr hs h1 hM (Rat.not_lt.1 h))
    rcases Rat.le_iff_lt_or_eq.1 (Rat.not_lt.1 h) with h2 | h2
    · rw [qs_lt h2]; omega
    · rw [qs_eq h2]; omega

/-! ### Middles -/
theorem mid_core {x y : Nat} (hx : x < 18446744073709551616) (hy : y < 18446744073709551616) : ∃ r : Nat × Int, Ev (fun f => approx_Mid.f f x y) r ∧ Ev (fun f => ref04_Mid.f f x y) r := by
  have p5 : Ev (fun f => approx_Mid.p5 f ()) (0, (40 : Int)) := by
    refine Ev.turn (fun f => approx_Mid.p5_succ f _) ?_
    unfold approx_Mid.e5; exact Ev.pure
  have p13 : Ev (fun f => approx_Mid.p13 f ()) (0, (41 : Int)) := by
    refine Ev.turn (fun f => approx_Mid.p13_succ f _) ?_
    unfold approx_Mid.e13; exact Ev.pure
  have q9 : Ev (fun f => ref04_Mid.p9 f ()) (0, (40 : Int)) := by
    refine Ev.turn (fun f => ref04_Mid.p9_succ f _) ?_
    unfold ref04_Mid.e9; exact Ev.pure
  have q13 : Ev (fun f => ref04_Mid.p13 f ()) (0, (41 : Int)) := by
    refine Ev.turn (fun f => ref04_Mid.p13_succ f _) ?_
    unfold ref04_Mid.e13; exact Ev.pure
  have infN : ∀ {z}, isI z = true → isN z = false := fun {z} h => by unfold isI at h; unfold isN; have := of_decide_eq_true h; exact dec_f (by omega)
  unfold approx_Mid.f approx_Mid.e ref04_Mid.f ref04_Mid.e math_Float64bits.f
  by_cases n1 : isN x = true
  · exact ⟨_, Ev.bind (isNaN_ev x) (Ev.tru n1 p5), Ev.bind Ev.pure (Ev.bind Ev.pure (Ev.bind (risNaN_ev hx) (Ev.tru n1 q9)))⟩
  · have n1' : isN x = false := by simpa using n1
    by_cases n2 : isN y = true
    · exact ⟨_, Ev.bind (isNaN_ev x) (Ev.fls n1' (Ev.bind (isNaN_ev y) (Ev.tru n2 p5))), Ev.bind Ev.pure (Ev.bind Ev.pure (Ev.bind (risNaN_ev hx) (Ev.fls n1' (Ev.bind (risNaN_ev hy) (Ev.tru n2 q9)))))⟩
    · have n2' : isN y = false := by simpa using n2
      by_cases i1 : isI x = true
      · refine ⟨_, Ev.bind (isNaN_ev x) (Ev.fls n1' (Ev.bind (isNaN_ev y) (Ev.fls n2' (Ev.bind (exact_inf hx i1) ?_)))), Ev.bind Ev.pure (Ev.bind Ev.pure (Ev.bind (risNaN_ev hx) (Ev.fls n1' (Ev.bind (risNaN_ev hy) (Ev.fls n2' (Ev.bind (risInf_ev hx) (Ev.tru i1 q13)))))))⟩
        rcases three_ways y with h | h | h
        · exact Ev.bind (exact_ev hy h) (Ev.tru (by simp) p13)
        · rw [n2'] at h; cases h
        · exact Ev.bind (exact_inf hy h) (Ev.tru (by simp) p13)
      · have i1' : isI x = false := by simpa using i1
        have fx : Fin x := by
          rcases three_ways x with h | h | h
          · exact h
          · rw [n1'] at h; cases h
          · rw [i1'] at h; cases h
        by_cases i2 : isI y = true
        · exact ⟨_, Ev.bind (isNaN_ev x) (Ev.fls n1' (Ev.bind (isNaN_ev y) (Ev.fls n2' (Ev.bind (exact_ev hx fx) (Ev.bind (exact_inf hy i2) (Ev.fls (by simp) (Ev.tru (by simp) p13))))))),
            Ev.bind Ev.pure (Ev.bind Ev.pure (Ev.bind (risNaN_ev hx) (Ev.fls n1' (Ev.bind (risNaN_ev hy) (Ev.fls n2' (Ev.bind (risInf_ev hx) (Ev.fls i1' (Ev.bind (risInf_ev hy) (Ev.tru i2 q13)))))))))⟩
        · have i2' : isI y = false := by simpa using i2
          have fy : Fin y := by
            rcases three_ways y with h | h | h
            · exact h
            · rw [n2'] at h; cases h
            · rw [i2'] at h; cases h
          have lx := LQ_val fx
          have ly := LQ_val fy
          have ls := LQ_add (val x) (val y)
          have lw := LQ_pw (e := 1073) (by omega)
          have lm := LQ_mul (val x + val y) (pw 1073)
          have a1 := (Rt.of lx).add (Rt.of ly) (by omega) (by omega)
          have b1 := (Rt.of lx).radd (Rt.of ly) (by omega) (by omega)
          have two := two_ev (e := 1073) (by omega)
          obtain ⟨w, hw, hwr⟩ := power_ev (e := 1073) (by omega)
          have ev1 : ((1073 : Nat) : Int) - 1074 = -1 := by decide
          rw [ev1] at two hw
          have hsum : Rt 2000 (rat (val x + val y)) (val x + val y) := Rt.of (by omega)
          have a2 := hsum.mul (Rt.of (M := 2000) (q := pw 1073) (by omega)) (by omega) (by omega)
          have b2 := hsum.rmul (hwr.mono (by omega)) (by omega) (by omega)
          have hm : Rt 2000 (rat ((val x + val y) * pw 1073)) ((val x + val y) * pw 1073) := Rt.of (by omega)
          obtain ⟨k, a, h, _⟩ := hm.pl (by omega) (by omega)
          have ehalf : Ev (fun f => approx_half.f f (rat (val x + val y))) (rat ((val x + val y) * pw 1073)) := by
            unfold approx_half.f approx_half.e
            exact Ev.bind two (Ev.bind a2 Ev.pure)
          exact ⟨_, Ev.bind (isNaN_ev x) (Ev.fls n1' (Ev.bind (isNaN_ev y) (Ev.fls n2' (Ev.bind (exact_ev hx fx) (Ev.bind (exact_ev hy fy) (Ev.fls (by simp) (Ev.fls (by simp) (Ev.bind a1 (Ev.bind ehalf (Ev.bind (hm.nearest (by omega) (by omega) h) Ev.pure)))))))))),
            Ev.bind Ev.pure (Ev.bind Ev.pure (Ev.bind (risNaN_ev hx) (Ev.fls n1' (Ev.bind (risNaN_ev hy) (Ev.fls n2' (Ev.bind (risInf_ev hx) (Ev.fls i1' (Ev.bind (risInf_ev hy) (Ev.fls i2' (Ev.bind (number_ev hx fx) (Ev.bind (number_ev hy fy) (Ev.bind b1 (Ev.bind hw (Ev.bind b2 (Ev.bind (hm.rnearest (by omega) h) Ev.pure)))))))))))))))⟩

theorem middles_ev {x y : Nat} (hx : x < 18446744073709551616) (hy : y < 18446744073709551616) : Ev (fun f => law04_ApproxMiddles.f f x y) true := by
  obtain ⟨r, h1, h2⟩ := mid_core hx hy
  unfold law04_ApproxMiddles.f law04_ApproxMiddles.e
  exact Ev.bind h1 (Ev.bind h2 (Ev.tru (by simp) (Ev.bind (same_self _) Ev.pure)))

/-! ### The laws -/
theorem ties_some {x : Int} (h : 0 ≤ x ∧ x ≤ 18446744073709551615) : ∃ k, law04_ApproxTies.f k x = some true := by
  have := (ties_ev (x := Int.toNat x) (by omega)).some
  rw [Int.toNat_of_nonneg h.1] at this
  exact this
theorem ties_math (x : TD [.int .u64]) (hw : wfDs (encT [.int .u64] x)) (_hm : massDs (encT [.int .u64] x) ≤ 1048576) : ∃ k, law04_ApproxTies.f k x = some true := by
  obtain ⟨h1, _⟩ := hw
  have h1' : IntKind.u64.min ≤ x ∧ x ≤ IntKind.u64.max := h1
  have e1 : IntKind.u64.min = 0 := by decide
  have e2 : IntKind.u64.max = 18446744073709551615 := by decide
  rw [e1, e2] at h1'
  exact ties_some h1'
theorem near_math (x : TD [tyRat, .flt]) (hw : wfDs (encT [tyRat, .flt] x)) (hm : massDs (encT [tyRat, .flt] x) ≤ 1048576) : ∃ k, law04_ApproxNear.f k x.1 x.2 = some true := by
  obtain ⟨h1, h2, _⟩ := hw
  have h2' : x.2 < 2 ^ 64 := h2
  have hm' : tyRat.mass x.1 + (1 + 0) ≤ 1048576 := hm
  exact (near_ev (rat_rt (r := x.1) h1 (M := 1048576) (by omega)) (by omega) (by omega) (by omega)).some
theorem beside_math (x : TD [tyRat]) (hw : wfDs (encT [tyRat] x)) (hm : massDs (encT [tyRat] x) ≤ 1048576) : ∃ k, law04_ApproxBeside.f k x = some true := by
  obtain ⟨h1, _⟩ := hw
  have hm' : tyRat.mass x + 0 ≤ 1048576 := hm
  exact (beside_ev (rat_rt (r := x) h1 (M := 1048576) (by omega)) (by omega) (by omega)).some
theorem rises_math (x : TD [tyRat, tyRat]) (hw : wfDs (encT [tyRat, tyRat] x)) (hm : massDs (encT [tyRat, tyRat] x) ≤ 1048576) : ∃ k, law04_ApproxRises.f k x.1 x.2 = some true := by
  obtain ⟨h1, h2, _⟩ := hw
  have hm' : tyRat.mass x.1 + (tyRat.mass x.2 + 0) ≤ 1048576 := hm
  exact (rises_ev (rat_rt (r := x.1) h1 (M := 1048576) (by omega)) (rat_rt (r := x.2) h2 (M := 1048576) (by omega)) (by omega) (by omega)).some
theorem middles_math (x : TD [.flt, .flt]) (hw : wfDs (encT [.flt, .flt] x)) (_hm : massDs (encT [.flt, .flt] x) ≤ 1048576) : ∃ k, law04_ApproxMiddles.f k x.1 x.2 = some true := by
  obtain ⟨h1, h2, _⟩ := hw
  have h1' : x.1 < 2 ^ 64 := h1
  have h2' : x.2 < 2 ^ 64 := h2
  exact (middles_ev (by omega) (by omega)).some

end Go.FK
