import Derived.Test.YtaggjlegalmiaaaGreatM3

/- Where a number stands among the floats, as a rational; Nearest, Down, Up of the program and of the reference. -/
namespace Go.FK
open Flt

/-- y (a number in units of the least float) stands at the k-th float, or above it by a. -/
structure At (y : Rat) (k : Nat) (a : Int) : Prop where
  le : k ≤ 9218868437227405311
  lo : (U k : Rat) ≤ y
  hi : k = 9218868437227405311 ∨ y < (U (k + 1) : Rat)
  at_ : (a = -1 ∧ (U k : Rat) = y) ∨ (a = 0 ∧ (U k : Rat) < y ∧ 2 * y < U k + U (k + 1)) ∨ (a = 1 ∧ (U k : Rat) < y ∧ 2 * y = U k + U (k + 1)) ∨ (a = 2 ∧ (U k : Rat) < y ∧ (U k : Rat) + U (k + 1) < 2 * y)

theorem At.exact {y : Rat} {k : Nat} {a : Int} (h : At y k a) : a = -1 ↔ (U k : Rat) = y := by
  rcases h.at_ with ⟨h1, h2⟩ | ⟨h1, h2, _⟩ | ⟨h1, h2, _⟩ | ⟨h1, h2, _⟩
  · simp [h1, h2]
  all_goals
    constructor
    · intro h; omega
    · intro h; rw [h] at h2; exact absurd h2 Rat.lt_irrefl

theorem At.unique {y : Rat} {k k' : Nat} {a a' : Int} (h : At y k a) (g : At y k' a') : k = k' ∧ a = a' := by
  have key : ∀ {k k' : Nat} {a a' : Int}, At y k a → At y k' a' → ¬ k < k' := by
    intro k k' a a' h g hlt
    have h1 := h.hi
    have h2 := g.le
    rcases h1 with h1 | h1
    · omega
    · have h3 : U (k + 1) ≤ U k' := U_mono (by omega)
      have h4 : (U (k + 1) : Rat) ≤ U k' := by exact_mod_cast h3
      have h5 := g.lo
      grind
  have h1 := key h g
  have h2 := key g h
  have e : k = k' := by omega
  subst e
  refine ⟨rfl, ?_⟩
  have h3 := h.at_
  have h4 := g.at_
  grind

theorem scaled {y : Rat} {N d : Nat} (hd : d ≠ 0) (hy : y * d = N) (a : Nat) : ((a : Rat) ≤ y ↔ a * d ≤ N) ∧ ((a : Rat) < y ↔ a * d < N) ∧ (y < a ↔ N < a * d) ∧ ((a : Rat) = y ↔ a * d = N) := by
  have hp : (0 : Rat) < (d : Rat) := by exact_mod_cast Nat.pos_of_ne_zero hd
  have h1 : (a : Rat) < y ↔ a * d < N := by
    rw [← Rat.mul_lt_mul_right hp, hy]
    exact_mod_cast Iff.rfl
  have h2 : y < a ↔ N < a * d := by
    rw [← Rat.mul_lt_mul_right hp, hy]
    exact_mod_cast Iff.rfl
  have h3 : (a : Rat) ≤ y ↔ a * d ≤ N := by
    rw [← Rat.not_lt, h2]; omega
  refine ⟨h3, h1, h2, ?_⟩
  constructor
  · intro h
    have := h3.1 (by rw [h]; exact Rat.le_refl)
    have : ¬ a * d < N := fun h' => by have := h1.2 h'; rw [h] at this; exact Rat.lt_irrefl this
    omega
  · intro h
    have e1 := h3.2 (by omega)
    have e2 : ¬ (a : Rat) < y := fun h' => by have := h1.1 h'; omega
    rcases Rat.le_iff_lt_or_eq.1 e1 with e | e
    · exact absurd e e2
    · exact e

theorem Rnd.at_rat {n d k : Nat} {a : Int} (h : Rnd n d k a) {y : Rat} (hd : d ≠ 0) (hy : y * d = ((n * TT : Nat) : Rat)) : At y k a := by
  have s := scaled hd hy
  have hy2 : (2 * y) * d = ((2 * (n * TT) : Nat) : Rat) := by rw [Rat.mul_assoc, hy]; push_cast; rfl
  have s2 := scaled hd hy2 (U k + U (k + 1))
  have c : ((U k + U (k + 1) : Nat) : Rat) = (U k : Rat) + U (k + 1) := by push_cast; rfl
  rw [c] at s2
  have hlt := U_lt_succ k
  refine ⟨h.le, (s _).1.2 h.lo, h.hi.imp id fun h => (s _).2.2.1.2 h, ?_⟩
  have ha := h.at_
  by_cases h0 : U k * d = n * TT
  · rw [if_pos h0] at ha
    exact Or.inl ⟨ha, (s _).2.2.2.2 h0⟩
  · rw [if_neg h0, sgn_nat] at ha
    have hl : (U k : Rat) < y := (s _).2.1.2 (by have := h.lo; omega)
    by_cases h1 : 2 * (n * TT) < (U k + U (k + 1)) * d
    · rw [if_pos h1] at ha
      exact Or.inr (Or.inl ⟨by omega, hl, s2.2.2.1.2 h1⟩)
    · rw [if_neg h1] at ha
      by_cases h2 : 2 * (n * TT) = (U k + U (k + 1)) * d
      · rw [if_pos h2] at ha
        exact Or.inr (Or.inr (Or.inl ⟨by omega, hl, (s2.2.2.2.2 h2.symm).symm⟩))
      · rw [if_neg h2] at ha
        exact Or.inr (Or.inr (Or.inr ⟨by omega, hl, s2.2.1.2 (by omega)⟩))

theorem Flo.at_rat {n d k : Nat} {is : Bool} (h : Flo n d k is) {y : Rat} (hd : d ≠ 0) (hy : y * d = ((n * TT : Nat) : Rat)) : ∃ a, At y k a ∧ is = decide (a = -1) := by
  have s := scaled hd hy
  have h0 := h.is
  have lo : (U k : Rat) ≤ y := (s _).1.2 h.lo
  have hi : k = 9218868437227405311 ∨ y < (U (k + 1) : Rat) := h.hi.imp id fun h => (s _).2.2.1.2 h
  rcases Rat.le_iff_lt_or_eq.1 lo with h1 | h1
  · have hf : is = false := by
      rw [h0]
      apply decide_eq_false
      intro he
      have := (s _).2.2.2.2 he
      rw [this] at h1
      exact Rat.lt_irrefl h1
    rcases (show 2 * y < (U k : Rat) + U (k + 1) ∨ 2 * y = (U k : Rat) + U (k + 1) ∨ (U k : Rat) + U (k + 1) < 2 * y by grind) with h2 | h2 | h2
    · exact ⟨0, ⟨h.le, lo, hi, Or.inr (Or.inl ⟨rfl, h1, h2⟩)⟩, by rw [hf]; rfl⟩
    · exact ⟨1, ⟨h.le, lo, hi, Or.inr (Or.inr (Or.inl ⟨rfl, h1, h2⟩))⟩, by rw [hf]; rfl⟩
    · exact ⟨2, ⟨h.le, lo, hi, Or.inr (Or.inr (Or.inr ⟨rfl, h1, h2⟩))⟩, by rw [hf]; rfl⟩
  · refine ⟨-1, ⟨h.le, lo, hi, Or.inl ⟨rfl, h1⟩⟩, ?_⟩
    rw [h0]
    simp [(s _).2.2.2.1 h1]

theorem mkRat_mul_den {z : Int} {d : Nat} (hd : d ≠ 0) : mkRat z d * (d : Rat) = (z : Rat) := by
  rw [Rat.mkRat_eq_div]
  exact Rat.div_mul_cancel (by exact_mod_cast hd)

theorem abs_mul_den {p : Rat} {z : Int} {d : Nat} (hd : d ≠ 0) (h : mkRat z d = p) : p.abs * (TT : Rat) * d = ((z.natAbs * TT : Nat) : Rat) := by
  have h1 := mkRat_mul_den (z := z) hd
  rw [h] at h1
  have hp : (0 : Rat) < (d : Rat) := by exact_mod_cast Nat.pos_of_ne_zero hd
  have h2 : p.abs * (d : Rat) = (z.natAbs : Rat) := by
    rcases Int.le_total 0 z with hz | hz
    · have e : (z.natAbs : Rat) = (z : Rat) := by
        rw [← Rat.intCast_natCast, Int.natAbs_of_nonneg hz]
      have : 0 ≤ p := by
        have hz' : (0 : Rat) ≤ (z : Rat) := by exact_mod_cast hz
        rw [← h1] at hz'
        rcases Rat.le_total (a := 0) (b := p) with h | h
        · exact h
        · have : p * (d : Rat) ≤ 0 * (d : Rat) := Rat.mul_le_mul_of_nonneg_right h (Rat.le_of_lt hp)
          rw [Rat.zero_mul] at this
          have h0 : p * (d : Rat) = 0 := Rat.le_antisymm this hz'
          have : p = 0 := by
            rcases Rat.mul_eq_zero.1 h0 with h | h
            · exact h
            · rw [h] at hp; exact absurd hp Rat.lt_irrefl
          rw [this]; exact Rat.le_refl
      rw [Rat.abs_of_nonneg this, h1, e]
    · have e : (z.natAbs : Rat) = -(z : Rat) := by
        rw [← Rat.intCast_natCast, ← Rat.intCast_neg]
        congr 1
        omega
      have : p ≤ 0 := by
        have hz' : (z : Rat) ≤ 0 := by exact_mod_cast hz
        rw [← h1] at hz'
        rcases Rat.le_total (a := p) (b := 0) with h | h
        · exact h
        · have : 0 * (d : Rat) ≤ p * (d : Rat) := Rat.mul_le_mul_of_nonneg_right h (Rat.le_of_lt hp)
          rw [Rat.zero_mul] at this
          have h0 : p * (d : Rat) = 0 := Rat.le_antisymm hz' this
          have : p = 0 := by
            rcases Rat.mul_eq_zero.1 h0 with h | h
            · exact h
            · rw [h] at hp; exact absurd hp Rat.lt_irrefl
          rw [this]; exact Rat.le_refl
      rw [Rat.abs_of_nonpos this, Rat.neg_mul, h1, e]
  rw [Rat.mul_assoc, Rat.mul_comm (TT : Rat), ← Rat.mul_assoc, h2]
  push_cast
  rfl

/-! ### What the two answer -/
def fb (s : Bool) (k : Nat) : Nat := if s then k + 9223372036854775808 else k
def nr (k : Nat) (a : Int) : Nat := if a = 2 ∨ (a = 1 ∧ k % 2 = 1) then k + 1 else k
def nrB (p : Rat) (k : Nat) (a : Int) : Nat := fb (decide (p < 0)) (nr k a)
def dnB (p : Rat) (k : Nat) (a : Int) : Nat := fb (decide (p < 0)) (if p < 0 ∧ a ≠ -1 then k + 1 else k)
def upB (p : Rat) (k : Nat) (a : Int) : Nat := fb (decide (p < 0)) (if ¬ p < 0 ∧ a ≠ -1 then k + 1 else k)

/-- Where the number p stands. -/
abbrev Pl (p : Rat) (k : Nat) (a : Int) : Prop := At (p.abs * (TT : Rat)) k a

theorem num_abs (p : Rat) : 0 ≤ p.abs.num := Rat.num_nonneg.2 Rat.abs_nonneg

theorem rounded_at {M : Nat} {p : Rat} (hl : LQ p.abs ≤ M) (hM : M ≤ 1000000000000) : ∃ k a, Pl p k a ∧ Ev (fun f => approx_rounded.f f (rat p.abs)) ((k : Int), a) := by
  obtain ⟨k, a, hk, hev⟩ := rounded_ev (num_abs p) hl hM
  refine ⟨k, a, hk.at_rat p.abs.den_nz ?_, hev⟩
  have := abs_mul_den (z := p.abs.num) p.abs.den_nz (Rat.mkRat_self p.abs)
  rw [Rat.abs_of_nonneg (Rat.abs_nonneg (x := p))] at this
  exact this

theorem abs_abs (p : Rat) : p.abs.abs = p.abs := Rat.abs_of_nonneg Rat.abs_nonneg

theorem sign_neg_dec (p : Rat) : decide (p.num.sign < 0) = decide (p < 0) := decide_eq_decide.2 (num_sign_neg p)

theorem Pl.lt {p : Rat} {k : Nat} {a : Int} (h : Pl p k a) : k < 9223372036854775807 := by have := h.le; omega

theorem float_ev {k : Nat} (hk : k < 9223372036854775808) (s : Int) : Ev (fun f => approx_float.f f (k : Int) s) (fb (decide (s < 0)) k) := by
  have p7 : ∀ j : Nat, Ev (fun f => approx_float.p7 f (j : Int)) j := fun j => by
    refine Ev.turn (fun f => approx_float.p7_succ f _) ?_
    unfold approx_float.e7 math_Float64frombits.f
    rw [Int.toNat_natCast]
    exact Ev.bind Ev.pure Ev.pure
  unfold approx_float.f approx_float.e fb
  by_cases h : s < 0
  · rw [dec_t h, if_pos rfl, bits_set hk]
    exact Ev.tru rfl (p7 _)
  · rw [dec_f h, if_neg (by simp)]
    exact Ev.fls rfl (p7 _)

theorem if_iff {p q : Prop} [Decidable p] [Decidable q] (h : p ↔ q) {x y : Nat} : (if p then x else y) = if q then x else y := by
  by_cases c : p
  · rw [if_pos c, if_pos (h.1 c)]
  · rw [if_neg c, if_neg (fun c' => c (h.2 c'))]

theorem Rt.pl {M : Nat} {r : RR} {p : Rat} (hr : Rt M r p) (h1 : 1 ≤ M) (hM : M ≤ 400000000000) : ∃ k a, Pl p k a ∧ Ev (fun f => approx_rounded.f f (rat p.abs)) ((k : Int), a) :=
  rounded_at (M := 2 * M) (by rw [LQ_abs]; exact hr.LQ h1) (by omega)

theorem At.a_ge {y : Rat} {k : Nat} {a : Int} (h : At y k a) : a ≥ 0 ↔ a ≠ -1 := by
  rcases h.at_ with ⟨h1, _⟩ | ⟨h1, _⟩ | ⟨h1, _⟩ | ⟨h1, _⟩ <;> omega

theorem Rt.toward {M : Nat} {r : RR} {p : Rat} (hr : Rt M r p) (h1 : 1 ≤ M) (hM : M ≤ 400000000000) {k : Nat} {a : Int} (h : Pl p k a) (o : Bool) : Ev (fun f => approx_toward.f f r o) (fb (decide (p < 0)) (if o = true ∧ a ≠ -1 then k + 1 else k)) := by
  obtain ⟨k', a', h', hev⟩ := hr.pl h1 hM
  obtain ⟨rfl, rfl⟩ := h.unique h'
  have hk := h.lt
  have ha := h.a_ge
  have p9 : ∀ j : Nat, j < 9223372036854775808 → Ev (fun f => approx_toward.p9 f r (j : Int)) (fb (decide (p < 0)) j) := fun j hj => by
    refine Ev.turn (fun f => approx_toward.p9_succ f _ _) ?_
    unfold approx_toward.e9
    have := float_ev hj p.num.sign
    rw [sign_neg_dec] at this
    exact Ev.bind (hr.sign h1 (by omega)) (Ev.bind this Ev.pure)
  unfold approx_toward.f approx_toward.e
  refine Ev.bind (hr.abs h1 (by omega)) (Ev.bind hev ?_)
  cases o with
  | false =>
    rw [if_neg (by simp)]
    exact Ev.fls rfl (p9 _ (by omega))
  | true =>
    refine Ev.tru rfl ?_
    by_cases c : a ≥ 0
    · rw [if_pos ⟨rfl, ha.1 c⟩]
      refine Ev.tru (dec_t c) ?_
      rw [show (k : Int) + 1 = ((k + 1 : Nat) : Int) by omega, w64n (by omega)]
      exact p9 _ (by omega)
    · rw [if_neg (fun hc => c (ha.2 hc.2))]
      exact Ev.fls (dec_f c) (p9 _ (by omega))

theorem Rt.down {M : Nat} {r : RR} {p : Rat} (hr : Rt M r p) (h1 : 1 ≤ M) (hM : M ≤ 400000000000) {k : Nat} {a : Int} (h : Pl p k a) : Ev (fun f => approx_Down.f f r) (dnB p k a) := by
  unfold approx_Down.f approx_Down.e dnB
  have := hr.toward h1 hM h (decide (p.num.sign < 0))
  have e : (decide (p.num.sign < 0) = true ∧ a ≠ -1) ↔ (p < 0 ∧ a ≠ -1) := by rw [decide_eq_true_eq, num_sign_neg]
  rw [if_iff e] at this
  exact Ev.bind (hr.sign h1 (by omega)) (Ev.bind this Ev.pure)

theorem Pl.zero {k : Nat} {a : Int} (h : Pl 0 k a) : k = 0 ∧ a = -1 := by
  have g : At ((0 : Rat).abs * (TT : Rat)) 0 (-1) := by
    rw [Rat.abs_zero, Rat.zero_mul]
    have e : (U 0 : Rat) = 0 := rfl
    have e1 : (U (0 + 1) : Rat) = 1 := rfl
    exact ⟨by omega, by rw [e]; exact Rat.le_refl, Or.inr (by rw [e1]; decide), Or.inl ⟨rfl, e⟩⟩
  exact h.unique g

theorem num_sign_pos (p : Rat) : p.num.sign > 0 ↔ 0 < p := by
  have h1 : p.num.sign > 0 ↔ 0 < p.num := by rw [gt_iff_lt, Int.sign_pos_iff]
  rw [h1, Rat.lt_iff]
  simp

theorem Rt.up {M : Nat} {r : RR} {p : Rat} (hr : Rt M r p) (h1 : 1 ≤ M) (hM : M ≤ 400000000000) {k : Nat} {a : Int} (h : Pl p k a) : Ev (fun f => approx_Up.f f r) (upB p k a) := by
  unfold approx_Up.f approx_Up.e upB
  have := hr.toward h1 hM h (decide (p.num.sign > 0))
  have e : (decide (p.num.sign > 0) = true ∧ a ≠ -1) ↔ (¬ p < 0 ∧ a ≠ -1) := by
    rw [decide_eq_true_eq, num_sign_pos]
    constructor
    · intro ⟨h1, h2⟩
      exact ⟨Rat.not_lt.2 (Rat.le_of_lt h1), h2⟩
    · intro ⟨h1, h2⟩
      rcases Rat.le_iff_lt_or_eq.1 (Rat.not_lt.1 h1) with h3 | h3
      · exact ⟨h3, h2⟩
      · rw [← h3] at h
        exact absurd h.zero.2 h2
  rw [if_iff e] at this
  exact Ev.bind (hr.sign h1 (by omega)) (Ev.bind this Ev.pure)

end Go.FK


/- Nearest, Down, Up of the reference. -/
namespace Go.FK
open Flt
set_option exponentiation.threshold 5000

theorem Rt.ntn {M : Nat} {r : RR} {p : Rat} (hr : Rt M r p) : Nt M r.1.2 (V r.1.2).toNat := ⟨hr.num, (V_norm_lim hr.num).2.symm, hr.nlen⟩

theorem Zv_abs {a : Bool × List Int} (h : Lim a.2) : (Zv a).natAbs = (V a.2).toNat := by
  have := V_nonneg h
  unfold Zv
  split <;> omega

theorem Rt.raw {M : Nat} {r : RR} {p : Rat} (hr : Rt M r p) :
    (((V r.1.2).toNat = 0 ∨ (V r.2).toNat = 0) → p = 0) ∧ ((V r.1.2).toNat ≠ 0 → (V r.2).toNat ≠ 0 → (p < 0 ↔ r.1.1 = true) ∧ p.abs * (TT : Rat) * ((V r.2).toNat : Rat) = (((V r.1.2).toNat * TT : Nat) : Rat)) := by
  have hv := hr.val
  have ha := Zv_abs (a := r.1) hr.num
  unfold Qv at hv
  constructor
  · rintro (h | h)
    · rw [← hv, show Zv r.1 = 0 by omega, Rat.zero_mkRat]
    · rw [← hv, h, Rat.mkRat_zero]
  · intro hn hd
    have := abs_mul_den hd hv
    rw [ha] at this
    refine ⟨?_, this⟩
    have h1 := mkRat_mul_den (z := Zv r.1) hd
    rw [hv] at h1
    have hp : (0 : Rat) < ((V r.2).toNat : Rat) := by exact_mod_cast Nat.pos_of_ne_zero hd
    have h2 : p < 0 ↔ Zv r.1 < 0 := by
      rw [← Rat.mul_lt_mul_right hp, h1, Rat.zero_mul]
      exact_mod_cast Iff.rfl
    rw [h2]
    have hV := V_nonneg hr.num
    unfold Zv
    cases hb : r.1.1
    · simp only [Bool.false_eq_true, if_false, iff_false]; omega
    · simp only [if_true, iff_true]; omega

def sg (p : Rat) : Int := if p < 0 then 9223372036854775808 else 0

theorem Rt.amount {M : Nat} {r : RR} {p : Rat} (hr : Rt M r p) (hM : M ≤ 1000000000000) : Ev (fun f => ref04_amount.f f r) (((false, r.1.2), r.2), sg p) := by
  obtain ⟨h0, h1⟩ := hr.raw
  obtain ⟨rn, hbn, hen⟩ := hr.ntn.rbits (by omega)
  obtain ⟨rd, hbd, hed⟩ := hr.nt.rbits (by omega)
  have zn := hbn.zero_iff
  have zd := hbd.zero_iff
  have p9 : p < 0 ∨ Ev (fun f => ref04_amount.p9 f ((false, ([] : List Int)), ([] : List Int)) ((false, r.1.2), r.2)) (((false, r.1.2), r.2), sg p) := by
    by_cases h : p < 0
    · exact Or.inl h
    · right
      refine Ev.turn (fun f => ref04_amount.p9_succ f _ _) ?_
      unfold ref04_amount.e9 sg
      rw [if_neg h]
      exact Ev.pure
  have n0 : p = 0 → ¬ p < 0 := fun h => by rw [h]; exact Rat.lt_irrefl
  unfold ref04_amount.f ref04_amount.e
  cases hb : r.1.1
  · have : ¬ p < 0 := by
      intro hlt
      by_cases hn : (V r.1.2).toNat = 0
      · exact n0 (h0 (Or.inl hn)) hlt
      · by_cases hd : (V r.2).toNat = 0
        · exact n0 (h0 (Or.inr hd)) hlt
        · have := (h1 hn hd).1.1 hlt
          rw [hb] at this; cases this
    exact Ev.fls rfl (p9.resolve_left this)
  · refine Ev.tru rfl (Ev.bind hen ?_)
    by_cases hn : (V r.1.2).toNat = 0
    · exact Ev.fls (dec_f (by omega)) (p9.resolve_left (n0 (h0 (Or.inl hn))))
    · refine Ev.tru (dec_t (by omega)) (Ev.bind hed ?_)
      by_cases hd : (V r.2).toNat = 0
      · exact Ev.fls (dec_f (by omega)) (p9.resolve_left (n0 (h0 (Or.inr hd))))
      · refine Ev.tru (dec_t (by omega)) ?_
        unfold sg
        rw [if_pos ((h1 hn hd).1.2 hb)]
        exact Ev.pure

theorem Rt.below {M : Nat} {r : RR} {p : Rat} (hr : Rt M r p) (hM : M ≤ 1000000000000) {k : Nat} {a : Int} (h : Pl p k a) : Ev (fun f => ref04_below.f f ((false, r.1.2), r.2)) ((k : Int), decide (a = -1)) := by
  obtain ⟨h0, h1⟩ := hr.raw
  by_cases hz : (V r.1.2).toNat = 0 ∨ (V r.2).toNat = 0
  · have := h0 hz
    subst this
    obtain ⟨rfl, rfl⟩ := h.zero
    exact below_zero (r := ((false, r.1.2), r.2)) hr.ntn hr.nt hz hM
  · obtain ⟨hn, hd⟩ : (V r.1.2).toNat ≠ 0 ∧ (V r.2).toNat ≠ 0 := by omega
    obtain ⟨k', is, hk, hev⟩ := below_ev (r := ((false, r.1.2), r.2)) hr.ntn hr.nt hd hn hM
    obtain ⟨a', ha, hi⟩ := hk.at_rat hd (h1 hn hd).2
    obtain ⟨rfl, rfl⟩ := h.unique ha
    rw [← hi]
    exact hev

theorem Rt.away {M : Nat} {r : RR} {p : Rat} (hr : Rt M r p) (hM : M ≤ 1000000000000) {k : Nat} {a : Int} (h : Pl p k a) : Ev (fun f => ref04_away.f f ((false, r.1.2), r.2)) ((if a ≠ -1 then k + 1 else k : Nat) : Int) := by
  have hk := h.lt
  unfold ref04_away.f ref04_away.e
  refine Ev.bind (hr.below hM h) ?_
  by_cases c : a = -1
  · rw [if_neg (by simpa using c)]
    exact Ev.tru (dec_t c) Ev.pure
  · rw [if_pos c]
    refine Ev.fls (dec_f c) ?_
    rw [show (k : Int) + 1 = ((k + 1 : Nat) : Int) by omega, w64n (by omega)]
    exact Ev.pure

theorem frombits (k : Nat) : Ev (fun f => math_Float64frombits.f f (k : Int)) k := by
  unfold math_Float64frombits.f
  rw [Int.toNat_natCast]
  exact Ev.pure

theorem Rt.rdown {M : Nat} {r : RR} {p : Rat} (hr : Rt M r p) (hM : M ≤ 400000000000) {k : Nat} {a : Int} (h : Pl p k a) : Ev (fun f => ref04_Down.f f r) (dnB p k a) := by
  have hk := h.lt
  unfold ref04_Down.f ref04_Down.e dnB
  refine Ev.bind (r := ((fb (decide (p < 0)) (if p < 0 ∧ a ≠ -1 then k + 1 else k) : Nat) : Int)) ?_ (Ev.bind (frombits _) Ev.pure)
  unfold ref04_DownBits.f ref04_DownBits.e fb
  refine Ev.bind (hr.amount (by omega)) ?_
  unfold sg
  by_cases hp : p < 0
  · rw [if_pos hp, dec_t hp, if_pos rfl]
    refine Ev.tru (by simp) (Ev.bind (hr.away (by omega) h) ?_)
    rw [bits_set' (by split <;> omega), if_iff (show (p < 0 ∧ a ≠ -1) ↔ a ≠ -1 from ⟨fun h => h.2, fun h => ⟨hp, h⟩⟩)]
    exact Ev.pure
  · rw [if_neg hp, dec_f hp, if_neg (by simp), if_neg (fun h => hp h.1)]
    exact Ev.fls (by simp) (Ev.bind (hr.below (by omega) h) Ev.pure)

theorem Rt.rup {M : Nat} {r : RR} {p : Rat} (hr : Rt M r p) (hM : M ≤ 400000000000) {k : Nat} {a : Int} (h : Pl p k a) : Ev (fun f => ref04_Up.f f r) (upB p k a) := by
  have hk := h.lt
  unfold ref04_Up.f ref04_Up.e upB
  refine Ev.bind (r := ((fb (decide (p < 0)) (if ¬ p < 0 ∧ a ≠ -1 then k + 1 else k) : Nat) : Int)) ?_ (Ev.bind (frombits _) Ev.pure)
  unfold ref04_UpBits.f ref04_UpBits.e fb
  refine Ev.bind (hr.amount (by omega)) ?_
  unfold sg
  by_cases hp : p < 0
  · rw [if_pos hp, dec_t hp, if_pos rfl, if_neg (fun h => h.1 hp)]
    refine Ev.fls (by simp) (Ev.bind (hr.below (by omega) h) ?_)
    rw [bits_set' (by omega)]
    exact Ev.pure
  · rw [if_neg hp, dec_f hp, if_neg (by simp)]
    refine Ev.tru (by simp) (Ev.bind (hr.away (by omega) h) ?_)
    rw [if_iff (show (¬ p < 0 ∧ a ≠ -1) ↔ a ≠ -1 from ⟨fun h => h.2, fun h => ⟨hp, h⟩⟩)]
    exact Ev.pure

/-! ### Nearest -/
theorem parts_ev {k : Nat} (hk : k < 9223372036854775808) : Ev (fun f => ref04_parts.f f (k : Int)) ((mOf k : Int), (eOf k : Int) - 1074) := by
  unfold ref04_parts.f ref04_parts.e mOf eOf
  have e1 : IntKind.i64.wrap (Int.fdiv (k : Int) (2 ^ 52)) = ((k / 4503599627370496 : Nat) : Int) := by
    rw [Int.fdiv_eq_ediv_of_nonneg _ (by omega), wrap_i64 (by omega) (by omega)]; omega
  rw [e1, bits_frac (by omega)]
  by_cases c : k < 4503599627370496
  · rw [if_pos c, show k % 4503599627370496 = k by omega, show k / 4503599627370496 - 1 = 0 by omega]
    exact Ev.tru (dec_t (by omega)) Ev.pure
  · rw [if_neg c]
    refine Ev.fls (dec_f (by omega)) ?_
    have e2 : ((k % 4503599627370496 : Nat) : Int) + 4503599627370496 = ((4503599627370496 + k % 4503599627370496 : Nat) : Int) := by omega
    have e3 : IntKind.i64.wrap (((k / 4503599627370496 : Nat) : Int) - 1075) = ((k / 4503599627370496 - 1 : Nat) : Int) - 1074 := by rw [wrap_i64 (by omega) (by omega)]; omega
    rw [e2, w64n (by omega), e3]
    exact Ev.pure

theorem next_parts (k : Nat) : mOf k + mOf (k + 1) * 2 ^ (eOf (k + 1) - eOf k) = 2 * mOf k + 1 ∧ eOf k ≤ eOf (k + 1) ∧ eOf (k + 1) ≤ eOf k + 1 := by
  have h1 : eOf k ≤ eOf (k + 1) ∧ eOf (k + 1) ≤ eOf k + 1 := by unfold eOf; omega
  refine ⟨?_, h1⟩
  rcases (show eOf (k + 1) = eOf k ∨ eOf (k + 1) = eOf k + 1 by omega) with h | h
  · rw [show eOf (k + 1) - eOf k = 0 by omega, Nat.pow_zero, Nat.mul_one]
    unfold eOf mOf at *
    split <;> split <;> omega
  · rw [show eOf (k + 1) - eOf k = 1 by omega, Nat.pow_one]
    unfold eOf mOf at *
    split <;> split <;> omega

theorem U_mid (k : Nat) : U k + U (k + 1) = (2 * mOf k + 1) * 2 ^ eOf k := by
  rw [U_next, U_parts k, ← Nat.add_mul]
  congr 1
  omega

theorem Pl.pos {p : Rat} {k : Nat} {a : Int} (_h : Pl p k a) : (0 : Rat) ≤ p.abs * (TT : Rat) := Rat.mul_nonneg Rat.abs_nonneg Rat.natCast_nonneg

end Go.FK


/- What a float is: its comparison, its number; neighbours. ApproxRounds, ApproxSteps. -/
namespace Go.FK
open Flt
set_option exponentiation.threshold 5000

theorem same_bits (x y : Nat) : Ev (fun f => law04_same.f f x y) (decide (x = y)) := by
  unfold law04_same.f law04_same.e math_Float64bits.f
  refine Ev.bind Ev.pure (Ev.bind Ev.pure ?_)
  rw [decide_eq_decide.2 (Int.natCast_inj (m := x) (n := y))]
  exact Ev.pure

theorem same_self (x : Nat) : Ev (fun f => law04_same.f f x x) true := by
  have := same_bits x x
  rw [dec_t rfl] at this
  exact this

/-! ### Comparison -/
theorem cmp_lt {a b : Int} : (some (compare a b) == some Ordering.lt) = decide (a < b) := by
  rw [cmpI]
  by_cases h : a < b
  · rw [if_pos h, dec_t h]; rfl
  · rw [if_neg h, dec_f h]; split <;> rfl
theorem cmp_eq {a b : Int} : (some (compare a b) == some Ordering.eq) = decide (a = b) := by
  rw [cmpI]
  by_cases h : a < b
  · rw [if_pos h, dec_f (by omega)]; rfl
  · rw [if_neg h]
    by_cases h2 : a = b
    · rw [if_pos h2, dec_t h2]; rfl
    · rw [if_neg h2, dec_f h2]; rfl
theorem cmp_gt {a b : Int} : (some (compare a b) == some Ordering.gt) = decide (a > b) := by
  rw [cmpI]
  by_cases h : a < b
  · rw [if_pos h, dec_f (by omega)]; rfl
  · rw [if_neg h]
    by_cases h2 : a = b
    · rw [if_pos h2, dec_f (by omega)]; rfl
    · rw [if_neg h2, dec_t (by omega)]; rfl
theorem fLt_eq {x y : Nat} (hx : isN x = false) (hy : isN y = false) : fLt x y = decide (R x < R y) := by unfold fLt; rw [order_eq x y hx hy]; exact cmp_lt
theorem fEq_eq {x y : Nat} (hx : isN x = false) (hy : isN y = false) : fEq x y = decide (R x = R y) := by unfold fEq; rw [order_eq x y hx hy]; exact cmp_eq
theorem fGt_eq {x y : Nat} (hx : isN x = false) (hy : isN y = false) : fGt x y = decide (R x > R y) := by unfold fGt; rw [order_eq x y hx hy]; exact cmp_gt
theorem fLt_nan {x y : Nat} (h : isN x = true ∨ isN y = true) : fLt x y = false := by unfold fLt; rw [order_nan x y h]; rfl
theorem fEq_nan {x y : Nat} (h : isN x = true ∨ isN y = true) : fEq x y = false := by unfold fEq; rw [order_nan x y h]; rfl
theorem fGt_nan {x y : Nat} (h : isN x = true ∨ isN y = true) : fGt x y = false := by unfold fGt; rw [order_nan x y h]; rfl
theorem isN_zero : isN 0 = false := by decide
theorem R_zero : R 0 = 0 := by decide
theorem fNeg_eq {x : Nat} (hx : x < 18446744073709551616) : fNeg x = if x < 9223372036854775808 then x + 9223372036854775808 else x - 9223372036854775808 := neg_eq x hx
theorem fNeg_lt {x : Nat} (hx : x < 18446744073709551616) : fNeg x < 18446744073709551616 := by rw [fNeg_eq hx]; split <;> omega
theorem isN_neg {x : Nat} (hx : x < 18446744073709551616) : isN (fNeg x) = isN x := by
  rw [fNeg_eq hx]
  unfold isN
  apply decide_eq_decide.2
  split <;> omega

def isI (x : Nat) : Bool := decide (x % 9223372036854775808 = 9218868437227405312)
/-- A finite float. -/
def Fin (x : Nat) : Prop := x % 9223372036854775808 ≤ 9218868437227405311
theorem Fin.nan {x : Nat} (h : Fin x) : isN x = false := by unfold Fin at h; unfold isN; exact dec_f (by omega)
theorem Fin.inf {x : Nat} (h : Fin x) : isI x = false := by unfold Fin at h; unfold isI; exact dec_f (by omega)

theorem isNaN_ev (x : Nat) : Ev (fun f => math_IsNaN.f f x) (isN x) := by
  unfold math_IsNaN.f math_IsNaN.e
  cases h : isN x
  · rw [fEq_eq h h, dec_t rfl]; exact Ev.pure
  · rw [fEq_nan (Or.inl h)]; exact Ev.pure

theorem isInf_p11 (x : Nat) : Ev (fun f => math_IsInf.p11 f x) (fGt x 9218868437227405311) := by
  refine Ev.turn (fun f => math_IsInf.p11_succ f _) ?_
  unfold math_IsInf.e11
  exact Ev.pure

theorem isN_max : isN 9218868437227405311 = false := by decide
theorem R_max : R 9218868437227405311 = 9218868437227405311 := by decide

theorem isInf_ev {x : Nat} (hx : x < 18446744073709551616) : Ev (fun f => math_IsInf.f f x 0) (isI x) := by
  unfold math_IsInf.f math_IsInf.e
  refine Ev.tru (by simp) ?_
  unfold math_Abs.f math_Abs.e
  simp only [math_Float64bits.f, Option.bind_some]
  rw [bits_clear hx]
  refine Ev.bind (Ev.bind (frombits _) Ev.pure) ?_
  have : fGt (x % 9223372036854775808) 9218868437227405311 = isI x := by
    unfold isI
    cases h : isN x
    · have h' : isN (x % 9223372036854775808) = false := by unfold isN at *; rw [show x % 9223372036854775808 % 9223372036854775808 = x % 9223372036854775808 by omega]; exact h
      rw [fGt_eq h' isN_max, R_max]
      apply decide_eq_decide.2
      unfold R
      unfold isN at h
      have h2 := of_decide_eq_false h
      rw [if_neg (by omega)]
      omega
    · have h' : isN (x % 9223372036854775808) = true := by unfold isN at *; rw [show x % 9223372036854775808 % 9223372036854775808 = x % 9223372036854775808 by omega]; exact h
      rw [fGt_nan (Or.inl h')]
      unfold isN at h
      have h2 := of_decide_eq_true h
      rw [dec_f (by omega)]
  rw [← this]
  exact isInf_p11 _

theorem isInf_ev1 {x : Nat} (hx : x < 18446744073709551616) : Ev (fun f => math_IsInf.f f x 1) (decide (x = 9218868437227405312)) := by
  unfold math_IsInf.f math_IsInf.e
  refine Ev.fls (by simp) (Ev.fls (by simp) ?_)
  have : fGt x 9218868437227405311 = decide (x = 9218868437227405312) := by
    cases h : isN x
    · rw [fGt_eq h isN_max, R_max]
      apply decide_eq_decide.2
      unfold R
      unfold isN at h
      have h2 := of_decide_eq_false h
      split <;> omega
    · rw [fGt_nan (Or.inl h)]
      unfold isN at h
      have h2 := of_decide_eq_true h
      rw [dec_f (by omega)]
  rw [← this]
  exact isInf_p11 _

theorem risNaN_ev {x : Nat} (hx : x < 18446744073709551616) : Ev (fun f => ref04_IsNaN.f f (x : Int)) (isN x) := by
  unfold ref04_IsNaN.f ref04_IsNaN.e isN
  rw [bits_clear hx, decide_eq_decide.2 (show ((x % 9223372036854775808 : Nat) : Int) > 9218868437227405312 ↔ 9218868437227405312 < x % 9223372036854775808 by omega)]
  exact Ev.pure
theorem risInf_ev {x : Nat} (hx : x < 18446744073709551616) : Ev (fun f => ref04_IsInf.f f (x : Int)) (isI x) := by
  unfold ref04_IsInf.f ref04_IsInf.e isI
  rw [bits_clear hx, decide_eq_decide.2 (show ((x % 9223372036854775808 : Nat) : Int) = 9218868437227405312 ↔ x % 9223372036854775808 = 9218868437227405312 by omega)]
  exact Ev.pure

theorem fin_iff {x : Nat} : (!isN x && !isI x) = true ↔ Fin x := by
  unfold isN isI Fin
  simp
  omega

/-! ### A float's number -/
/-- A power of 2, in the reference's hands. -/
def pw (e : Nat) : Rat := ((2 ^ e : Nat) : Rat) / (TT : Rat)
theorem TT_ne : (TT : Rat) ≠ 0 := by have := TT_pos; exact_mod_cast (by omega : TT ≠ 0)
theorem TT_posR : (0 : Rat) < (TT : Rat) := by exact_mod_cast TT_pos

theorem eq_div {x a : Rat} (h : x * (TT : Rat) = a) : x = a / (TT : Rat) := by rw [← h, Rat.mul_div_cancel TT_ne]
theorem div_mul {a : Rat} : a / (TT : Rat) * (TT : Rat) = a := Rat.div_mul_cancel TT_ne

theorem one_nt {M : Nat} (h1 : 1 ≤ M) : Nt M [1] 1 := ⟨Lim.mk (by simp [B]) Lim.nil, by simp [V], by simpa using h1⟩

theorem L_pow (n : Nat) : FK.L (2 ^ n) ≤ n / 32 + 1 := by
  refine L_le ?_
  rw [show (4294967296 : Nat) = 2 ^ 32 by decide, ← Nat.pow_mul]
  exact Nat.pow_lt_pow_right (by omega) (by omega)

theorem mk_pw_neg {s e : Nat} (h : s + e = 1074) : mkRat 1 (2 ^ s) = pw e := by
  have hz : (2 ^ s : Nat) ≠ 0 := Nat.ne_of_gt (Nat.pow_pos (by omega))
  apply eq_div
  have h1 := mkRat_mul_den (z := 1) hz
  have h2 : (TT : Rat) = ((2 ^ s : Nat) : Rat) * ((2 ^ e : Nat) : Rat) := by
    rw [← Rat.natCast_mul, ← Nat.pow_add, h]; rfl
  rw [h2, ← Rat.mul_assoc, h1]
  show (1 : Rat) * _ = _
  rw [Rat.one_mul]
theorem mk_pw_pos {s e : Nat} (h : e = s + 1074) : mkRat ((2 ^ s : Nat) : Int) 1 = pw e := by
  apply eq_div
  have h1 := mkRat_mul_den (z := ((2 ^ s : Nat) : Int)) (d := 1) (by omega)
  have h2 : mkRat ((2 ^ s : Nat) : Int) 1 = ((2 ^ s : Nat) : Rat) := by
    rw [← Rat.mul_one (mkRat _ 1)]
    exact h1
  rw [h2, ← Rat.natCast_mul]
  unfold TT
  rw [← Nat.pow_add, h]

theorem power_ev {e : Nat} (he : e ≤ 3000) : ∃ r, Ev (fun f => ref04_power.f f ((e : Int) - 1074)) r ∧ Rt 100 r (pw e) := by
  unfold ref04_power.f ref04_power.e
  have o1 : Nt 100 [1] 1 := one_nt (by omega)
  by_cases h : e < 1074
  · have e1 : IntKind.i64.wrap (0 - ((e : Int) - 1074)) = ((1074 - e : Nat) : Int) := by rw [wrap_i64 (by omega) (by omega)]; omega
    have := o1.rshift_up (by omega) (1074 - e) (by omega)
    rw [Nat.one_mul] at this
    rw [e1]
    refine ⟨_, Ev.tru (dec_t (by omega)) (Ev.bind this Ev.pure), ?_⟩
    rw [← mk_pw_neg (s := 1074 - e) (e := e) (by omega)]
    exact Rt.mk2 (Zt.pos o1) (Nt.of (Nat.le_trans (L_pow _) (by omega)))
  · have e1 : ((e : Int) - 1074) = ((e - 1074 : Nat) : Int) := by omega
    have := o1.rshift_up (by omega) (e - 1074) (by omega)
    rw [Nat.one_mul] at this
    rw [e1]
    refine ⟨_, Ev.fls (dec_f (by omega)) (Ev.bind this Ev.pure), ?_⟩
    rw [← mk_pw_pos (s := e - 1074) (e := e) (by omega)]
    exact Rt.mk2 (Zt.pos (Nt.of (Nat.le_trans (L_pow _) (by omega)))) o1

theorem LQ_pw {e : Nat} (he : e ≤ 3000) : LQ (pw e) ≤ 200 := by
  obtain ⟨r, _, hr⟩ := power_ev he
  exact hr.LQ (by omega)

/-- A signed number of the least floats. -/
def num (s : Bool) (k : Nat) : Rat := (S s k : Rat) / (TT : Rat)
/-- What a finite float is. -/
def val (x : Nat) : Rat := num (x / 9223372036854775808 % 2 == 1) (x % 9223372036854775808)

theorem num_parts (k : Nat) : (mOf k : Rat) * pw (eOf k) = num false k := by
  unfold pw num S
  rw [if_neg (by simp), U_parts]
  apply eq_div
  rw [Rat.mul_assoc, div_mul]
  push_cast
  rfl
theorem num_neg (k : Nat) : num true k = - num false k := by
  unfold num S
  rw [if_pos rfl, if_neg (by simp), Rat.intCast_neg, Rat.div_def, Rat.div_def, Rat.neg_mul]

theorem mkRat_one (z : Int) : mkRat z 1 = (z : Rat) := Rat.mkRat_self (z : Rat)

theorem LQ_num_k {k : Nat} (hk : k ≤ 9218868437227405312) : LQ (num false k) ≤ 250 := by
  rw [← num_parts]
  have h1 := LQ_mul (mOf k : Rat) (pw (eOf k))
  have h2 := LQ_pw (e := eOf k) (by unfold eOf; omega)
  have h3 : LQ (mOf k : Rat) ≤ 3 := by
    have := parts_ok k
    have : FK.L (mOf k) ≤ 2 := L_le (by omega)
    have e : LQ ((mOf k : Nat) : Rat) = FK.L (mOf k) + 1 := by
      unfold LQ
      rw [Rat.num_natCast, Rat.den_natCast, L_one]
      rfl
    omega
  omega
theorem LQ_numk {s : Bool} {k : Nat} (hk : k ≤ 9218868437227405312) : LQ (num s k) ≤ 250 := by
  cases s
  · exact LQ_num_k hk
  · rw [num_neg, LQ_neg]; exact LQ_num_k hk

theorem amount_ev {k : Nat} (hk : k ≤ 9218868437227405312) : Ev (fun f => ref04_Amount.f f (k : Int)) (rat (num false k)) := by
  unfold ref04_Amount.f ref04_Amount.e
  have hp := parts_ok k
  obtain ⟨r, hr, hrt⟩ := power_ev (e := eOf k) (by unfold eOf; omega)
  have hof := ref01_Of_ev (n := (mOf k : Int)) (by omega)
  rw [Int.toNat_natCast] at hof
  have nm : Nt 100 (FK.lim (mOf k)) (mOf k) := Nt.of (Nat.le_trans (L_le (m := 2) (by omega)) (by omega))
  have rm := Rt.mk2 (Zt.pos nm) (one_nt (M := 100) (by omega))
  rw [mkRat_one] at rm
  have := rm.rmul hrt (by omega) (by omega)
  rw [show ((mOf k : Int) : Rat) = ((mOf k : Nat) : Rat) from rfl, num_parts] at this
  exact Ev.bind (parts_ev (by omega)) (Ev.bind hof (Ev.bind hr (Ev.bind this Ev.pure)))

theorem number_ev {x : Nat} (hx : x < 18446744073709551616) (hf : Fin x) : Ev (fun f => ref04_Number.f f (x : Int)) (rat (val x)) := by
  unfold ref04_Number.f ref04_Number.e val
  unfold Fin at hf
  rw [bits_top hx, bits_clear hx]
  by_cases h : x < 9223372036854775808
  · rw [if_pos h]
    refine Ev.fls (by simp) ?_
    have e1 : (x / 9223372036854775808 % 2 == 1) = false := by rw [show x / 9223372036854775808 = 0 by omega]; rfl
    have e2 : x % 9223372036854775808 = x := by omega
    rw [e1, e2]
    exact Ev.bind (amount_ev (by omega)) Ev.pure
  · rw [if_neg h]
    refine Ev.tru (by simp) ?_
    have e1 : (x / 9223372036854775808 % 2 == 1) = true := by rw [show x / 9223372036854775808 = 1 by omega]; rfl
    rw [e1, num_neg]
    have := (Rt.of (LQ_num_k (k := x % 9223372036854775808) (by omega))).rneg (by omega) (by omega)
    exact Ev.bind (amount_ev (by omega)) (Ev.bind this Ev.pure)

theorem LQ_val {x : Nat} (hf : Fin x) : LQ (val x) ≤ 250 := LQ_numk (by unfold Fin at hf; omega)

theorem two_ev {e : Nat} (he : e ≤ 3000) : Ev (fun f => approx_two.f f ((e : Int) - 1074)) (rat (pw e)) := by
  have p11 : ∀ x, Ev (fun f => approx_two.p11 f ((false, ([] : List Int)), ([] : List Int)) x) x := fun x => by
    refine Ev.turn (fun f => approx_two.p11_succ f _ _) ?_
    unfold approx_two.e11
    exact Ev.pure
  have hof : Ev (fun f => nat_Of.f f 1) (FK.lim 1) := by
    have := nat_Of_ev (n := 1) (by omega)
    exact this
  have n1 : Nt 100 (FK.lim 1) 1 := Nt.of (by rw [L_one]; omega)
  have hz1 : Zt 100 (int 1) 1 := Zt.of (by show FK.L 1 ≤ 100; rw [L_one]; omega)
  unfold approx_two.f approx_two.e
  refine Ev.bind hof ?_
  by_cases h : e < 1074
  · have e1 : IntKind.i64.wrap (0 - ((e : Int) - 1074)) = ((1074 - e : Nat) : Int) := by rw [wrap_i64 (by omega) (by omega)]; omega
    rw [e1, dec_t (by omega), cond_true]
    have hs := n1.shift_up (by omega) (1074 - e) (by omega)
    rw [Nat.one_mul] at hs
    refine Ev.bind hs (Ev.bind (whole_Of_ev (by omega)) ?_)
    have nz : Zt 100 (false, FK.lim (2 ^ (1074 - e))) ((2 ^ (1074 - e) : Nat) : Int) := Zt.pos (Nt.of (Nat.le_trans (L_pow _) (by omega)))
    have := nz.of_ev hz1 (by omega) (by omega)
    refine Ev.bind this (Ev.tru (dec_t (by omega)) ?_)
    have e2 : Rat.divInt ((2 ^ (1074 - e) : Nat) : Int) 1 = ((2 ^ (1074 - e) : Nat) : Rat) := by
      have : Rat.divInt ((2 ^ (1074 - e) : Nat) : Int) ((1 : Nat) : Int) = _ := Rat.divInt_ofNat _ _
      rw [show ((1 : Nat) : Int) = 1 from rfl] at this
      rw [this, mkRat_one]
      rfl
    have hL : LQ ((2 ^ (1074 - e) : Nat) : Rat) ≤ 200 := by
      have e5 : LQ ((2 ^ (1074 - e) : Nat) : Rat) = FK.L (2 ^ (1074 - e)) + 1 := by
        unfold LQ
        rw [Rat.num_natCast, Rat.den_natCast, L_one]
        rfl
      have := L_pow (1074 - e)
      omega
    have hne : ((2 ^ (1074 - e) : Nat) : Rat) ≠ 0 := by
      have : (2 ^ (1074 - e) : Nat) ≠ 0 := Nat.ne_of_gt (Nat.pow_pos (by omega))
      exact_mod_cast this
    simp only [e2]
    have hinv := (Rt.of hL).inv (by omega) (by omega) hne
    have e3 : ((2 ^ (1074 - e) : Nat) : Rat)⁻¹ = pw e := by
      rw [← mk_pw_neg (s := 1074 - e) (e := e) (by omega), Rat.mkRat_eq_div, Rat.div_def]
      show _ = (1 : Rat) * _
      rw [Rat.one_mul]
    rw [e3] at hinv
    exact Ev.bind hinv (p11 _)
  · have e1 : IntKind.i64.wrap (0 - ((e : Int) - 1074)) = -((e - 1074 : Nat) : Int) := by rw [wrap_i64 (by omega) (by omega)]; omega
    rw [e1, dec_f (by omega), cond_false]
    have e0 : ((e : Int) - 1074) = ((e - 1074 : Nat) : Int) := by omega
    rw [e0]
    have hs := n1.shift_up (by omega) (e - 1074) (by omega)
    rw [Nat.one_mul] at hs
    refine Ev.bind hs (Ev.bind (whole_Of_ev (by omega)) ?_)
    have nz : Zt 100 (false, FK.lim (2 ^ (e - 1074))) ((2 ^ (e - 1074) : Nat) : Int) := Zt.pos (Nt.of (Nat.le_trans (L_pow _) (by omega)))
    have := nz.of_ev hz1 (by omega) (by omega)
    have e2 : Rat.divInt ((2 ^ (e - 1074) : Nat) : Int) 1 = pw e := by
      have : Rat.divInt ((2 ^ (e - 1074) : Nat) : Int) ((1 : Nat) : Int) = _ := Rat.divInt_ofNat _ _
      rw [show ((1 : Nat) : Int) = 1 from rfl] at this
      rw [this]
      exact mk_pw_pos (s := e - 1074) (e := e) (by omega)
    rw [e2] at this
    exact Ev.bind this (Ev.fls (dec_f (by omega)) (p11 _))

end Go.FK


/- Exact, Next, Prev: ApproxSteps. -/
namespace Go.FK
open Flt

/-! ### Sameness -/
/-! ### Exact -/
theorem R_neg_iff {x : Nat} (_hx : x < 18446744073709551616) : R x < 0 ↔ (x / 9223372036854775808 % 2 == 1) = true ∧ x % 9223372036854775808 ≠ 0 := by
  unfold R
  rw [beq_iff_eq]
  split <;> omega

theorem val_parts {x : Nat} (hx : x < 18446744073709551616) : (((if R x < 0 then -(mOf (x % 9223372036854775808) : Int) else (mOf (x % 9223372036854775808) : Int)) : Int) : Rat) * pw (eOf (x % 9223372036854775808)) = val x := by
  unfold val
  have h := R_neg_iff hx
  have hz : x % 9223372036854775808 = 0 → mOf (x % 9223372036854775808) = 0 := fun h => by rw [h]; rfl
  have hz2 : x % 9223372036854775808 = 0 → num false (x % 9223372036854775808) = 0 := fun h => by rw [h]; unfold num S; simp [U_zero, Rat.div_def, Rat.zero_mul]
  cases hs : (x / 9223372036854775808 % 2 == 1)
  · rw [hs] at h
    rw [if_neg (by simp [h]), ← num_parts]
    rfl
  · rw [hs] at h
    by_cases h0 : x % 9223372036854775808 = 0
    · rw [if_neg (by simp [h, h0]), num_neg, hz h0, hz2 h0]
      simp [Rat.zero_mul]
    · rw [if_pos (h.2 ⟨rfl, h0⟩), num_neg, ← num_parts, Rat.intCast_neg, Rat.neg_mul]
      rfl

theorem noRat_eq : (((false, ([] : List Int)), ([] : List Int)) : RR) = noRat := rfl

theorem exact_ev {x : Nat} (hx : x < 18446744073709551616) (hf : Fin x) : Ev (fun f => approx_Exact.f f x) (rat (val x), (0 : Int)) := by
  have hnan := hf.nan
  have hinf := hf.inf
  unfold Fin at hf
  have hlt := fLt_eq (x := x) (y := 0) (Fin.nan hf) isN_zero
  rw [R_zero] at hlt
  have hk : x % 9223372036854775808 < 9223372036854775808 := by omega
  have hv := val_parts hx
  have hR : R x < 0 → mOf (x % 9223372036854775808) ≠ 0 := fun h h0 => by
    have := (R_neg_iff hx).1 h
    unfold mOf at h0
    split at h0 <;> omega
  have p21 : Ev (fun f => approx_Exact.p21 f ((false, ([] : List Int)), ([] : List Int)) x (mOf (x % 9223372036854775808) : Int) (eOf (x % 9223372036854775808) : Int)) (rat (val x), (0 : Int)) := by
    rw [← hv]
    have hp := parts_ok (x % 9223372036854775808)
    have he : eOf (x % 9223372036854775808) ≤ 2045 := by unfold eOf; omega
    generalize mOf (x % 9223372036854775808) = m at *
    generalize eOf (x % 9223372036854775808) = e at *
    refine Ev.turn (fun f => approx_Exact.p21_succ f _ _ _ _) ?_
    unfold approx_Exact.e21
    have hof := nat_Of_ev (n := (m : Int)) (by omega)
    rw [Int.toNat_natCast] at hof
    have hm : FK.L m ≤ 2 := L_le (by omega)
    have zt : Zt 100 (fLt x 0, FK.lim m) (if R x < 0 then -(m : Int) else (m : Int)) := by
      rw [hlt]
      refine ⟨Lim_lim m, ?_, Nat.le_trans hm (by omega)⟩
      unfold Zv
      by_cases h : R x < 0
      · rw [dec_t h, if_pos rfl, if_pos h, V_lim]
      · rw [dec_f h, if_neg (by simp), if_neg h, V_lim]
    generalize hz : (if R x < 0 then -(m : Int) else (m : Int)) = z at *
    have hz1 : Zt 100 (int 1) 1 := Zt.of (by show FK.L 1 ≤ 100; rw [L_one]; omega)
    have hr := zt.of_ev hz1 (by omega) (by omega)
    have e2 : Rat.divInt z 1 = (z : Rat) := by
      have : Rat.divInt z ((1 : Nat) : Int) = _ := Rat.divInt_ofNat _ _
      rw [show ((1 : Nat) : Int) = 1 from rfl] at this
      rw [this, mkRat_one]
    rw [e2] at hr
    have w : IntKind.i64.wrap ((e : Int) + -1074) = (e : Int) - 1074 := by rw [wrap_i64 (by omega) (by omega)]; omega
    rw [w]
    have lz : LQ (z : Rat) ≤ 200 := by
      unfold LQ
      rw [Rat.num_intCast, Rat.den_intCast, L_one]
      have : LZ z ≤ 2 := L_le (by omega)
      omega
    have := (Rt.of lz).mul (Rt.of (LQ_pw (e := e) (by omega))) (by omega) (by omega)
    exact Ev.bind hof (Ev.bind (whole_Of_ev (by omega)) (Ev.bind hr (Ev.bind (two_ev (by omega)) (Ev.bind this Ev.pure))))
  unfold approx_Exact.f approx_Exact.e
  simp only [math_Float64bits.f, Option.bind_some]
  rw [bits_clear hx]
  generalize x % 9223372036854775808 = k at *
  have e1 : IntKind.i64.wrap (Int.fdiv (k : Int) (2 ^ 52)) = ((k / 4503599627370496 : Nat) : Int) := by
    rw [Int.fdiv_eq_ediv_of_nonneg _ (by omega), wrap_i64 (by omega) (by omega)]; omega
  rw [e1, bits_frac (by omega)]
  refine Ev.bind (isNaN_ev x) (Ev.fls hnan (Ev.bind (isInf_ev hx) (Ev.fls hinf ?_)))
  by_cases c : k < 4503599627370496
  · refine Ev.fls (dec_f (by omega)) ?_
    unfold mOf eOf at p21
    rw [if_pos c, show k / 4503599627370496 - 1 = k / 4503599627370496 by omega] at p21
    rw [show k % 4503599627370496 = k by omega]
    exact p21
  · refine Ev.tru (dec_t (by omega)) ?_
    unfold mOf eOf at p21
    rw [if_neg c] at p21
    have e3 : IntKind.i64.wrap (((k / 4503599627370496 : Nat) : Int) - 1) = ((k / 4503599627370496 - 1 : Nat) : Int) := by rw [wrap_i64 (by omega) (by omega)]; omega
    rw [bits_hidden (by omega), e3, Nat.add_comm]
    exact p21

theorem exact_nan {x : Nat} (h : isN x = true) : Ev (fun f => approx_Exact.f f x) (noRat, (40 : Int)) := by
  unfold approx_Exact.f approx_Exact.e
  exact Ev.bind (isNaN_ev x) (Ev.tru h Ev.pure)
theorem exact_inf {x : Nat} (hx : x < 18446744073709551616) (h : isI x = true) : Ev (fun f => approx_Exact.f f x) (noRat, (41 : Int)) := by
  have hn : isN x = false := by unfold isI at h; unfold isN; have := of_decide_eq_true h; exact dec_f (by omega)
  unfold approx_Exact.f approx_Exact.e
  exact Ev.bind (isNaN_ev x) (Ev.fls hn (Ev.bind (isInf_ev hx) (Ev.tru h Ev.pure)))
theorem three_ways (x : Nat) : Fin x ∨ isN x = true ∨ isI x = true := by
  unfold Fin isN isI
  simp only [decide_eq_true_eq]
  omega

/-! ### Next and Prev -/
def nx (x : Nat) : Nat × Int :=
  if isN x = true then (0, 40) else if x = 9218868437227405312 then (0, 41) else if x = 9223372036854775808 then (1, 0) else if 9223372036854775808 ≤ x then (x - 1, 0) else (x + 1, 0)

theorem nx_lt {x : Nat} (hx : x < 18446744073709551616) : (nx x).1 < 18446744073709551616 := by
  unfold nx
  cases hn : isN x
  · have hn' : ¬ 9218868437227405312 < x % 9223372036854775808 := by unfold isN at hn; exact of_decide_eq_false hn
    rw [if_neg (by simp)]
    split
    · simp
    · split
      · simp
      · split <;> simp only <;> omega
  · rw [if_pos rfl]; simp

def pv (x : Nat) : Nat × Int := if (nx (fNeg x)).2 = 0 then (fNeg (nx (fNeg x)).1, 0) else (0, (nx (fNeg x)).2)

end Go.FK
