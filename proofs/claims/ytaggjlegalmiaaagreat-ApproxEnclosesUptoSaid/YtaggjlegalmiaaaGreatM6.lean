import Derived.Test.YtaggjlegalmiaaaGreatM5

/- Spans' ends in plain numbers; the least span over ends; ApproxSpans. -/
namespace Go.FK
open Flt

/-- An end in plain numbers. -/
abbrev EN := Int × Rat
abbrev Ee (M : Nat) (e : EE) (a : EN) : Prop := Er M e a.1 a.2
def plE (a b : EN) : EN := if a.1 ≠ 0 then a else if b.1 ≠ 0 then b else (0, a.2 + b.2)
def miE (a : EN) : EN := (-a.1, -a.2)
def sgE (a : EN) : Int := if a.1 ≠ 0 then a.1 else a.2.num.sign
def muE (a b : EN) : EN := if a.1 = 0 ∧ b.1 = 0 then (0, a.2 * b.2) else (sgE a * sgE b, 0)
def ivE (b : EN) : EN := if b.1 ≠ 0 then (0, 0) else (0, b.2⁻¹)

def Le (a b : EN) : Prop := ec a.1 a.2 b.1 b.2 ≤ 0
theorem le_iff (a b : EN) : Le a b ↔ a.1 < b.1 ∨ (a.1 = b.1 ∧ (a.1 ≠ 0 ∨ a.2 ≤ b.2)) := by
  unfold Le
  by_cases c : a.1 = b.1
  · by_cases c0 : a.1 = 0
    · rw [c, c0.symm.trans c |>.symm, ec_num, qs_swap, qs_neg, Rat.not_lt]
      constructor
      · intro h; exact .inr ⟨rfl, .inr h⟩
      · rintro (h | ⟨_, h | h⟩)
        · exact absurd h (by omega)
        · exact absurd rfl h
        · exact h
    · rw [← c, ec_far c0]
      exact ⟨fun _ => .inr ⟨rfl, .inl c0⟩, fun _ => by omega⟩
  · rw [ec_ne c]
    constructor
    · intro h; exact .inl (by omega)
    · rintro (h | ⟨h, _⟩)
      · omega
      · exact absurd h c

theorem Le.refl (a : EN) : Le a a := (le_iff a a).2 (.inr ⟨rfl, .inr Rat.le_refl⟩)
theorem Le.trans {a b c : EN} (h : Le a b) (g : Le b c) : Le a c := by
  rw [le_iff] at *
  rcases h with h | ⟨h, h'⟩ <;> rcases g with g | ⟨g, g'⟩
  · exact .inl (by omega)
  · exact .inl (by omega)
  · exact .inl (by omega)
  · refine .inr ⟨h.trans g, ?_⟩
    rcases h' with h' | h'
    · exact .inl h'
    · rcases g' with g' | g'
      · exact .inl (by omega)
      · exact .inr (Rat.le_trans h' g')
theorem le_or (a b : EN) : Le a b ∨ Le b a := by
  rw [le_iff, le_iff]
  rcases (show a.1 < b.1 ∨ a.1 = b.1 ∨ b.1 < a.1 by omega) with h | h | h
  · exact .inl (.inl h)
  · rcases (Rat.le_total : a.2 ≤ b.2 ∨ b.2 ≤ a.2) with g | g
    · exact .inl (.inr ⟨h, .inr g⟩)
    · exact .inr (.inr ⟨h.symm, .inr g⟩)
  · exact .inr (.inl h)
theorem not_le {a b : EN} (h : ¬ Le a b) : Le b a := (le_or a b).resolve_left h
theorem ec_lt_iff (a b : EN) : ec a.1 a.2 b.1 b.2 < 0 ↔ ¬ Le b a := by
  unfold Le
  rw [ec_swap]
  exact ⟨fun h g => g h, fun h => Classical.byContradiction h⟩
theorem ec_gt_iff (a b : EN) : 0 < ec a.1 a.2 b.1 b.2 ↔ ¬ Le a b := by unfold Le; omega
theorem Le.same {a b : EN} (h : Le a b) (g : Le b a) : a.1 = b.1 ∧ (a.1 = 0 → a.2 = b.2) := by
  rw [le_iff] at *
  rcases h with h | ⟨h, h'⟩ <;> rcases g with g | ⟨g, g'⟩ <;> try omega
  refine ⟨h, fun h0 => ?_⟩
  exact Rat.le_antisymm (h'.resolve_left (fun k => k h0)) (g'.resolve_left (fun k => k (h ▸ h0)))

section
variable {M : Nat} {x y : EE} {a b : EN}

theorem Ee.LQ (hx : Ee M x a) (h1 : 1 ≤ M) : LQ a.2 ≤ 2 * M := hx.at_.LQ h1

theorem Ee.add (hx : Ee M x a) (hy : Ee M y b) (h1 : 1 ≤ M) (hM : M ≤ 1000000000) : (∃ e, Ev (fun k => approx_add.f k x y) e ∧ Ee (9 * M) e (plE a b)) ∧ ∃ e, Ev (fun k => ref04_plus.f k x y) e ∧ Ee (9 * M) e (plE a b) := by
  have hm : M ≤ 9 * M := by omega
  unfold approx_add.f approx_add.e ref04_plus.f ref04_plus.e plE
  by_cases c : a.1 = 0
  · have d1 : (!decide (x.1 = 0)) = false := by rw [hx.far, dec_t c]; rfl
    by_cases c2 : b.1 = 0
    · have d2 : (!decide (y.1 = 0)) = false := by rw [hy.far, dec_t c2]; rfl
      rw [if_neg (fun h => h c), if_neg (fun h => h c2)]
      have hq : Rt (9 * M) (rat (a.2 + b.2)) (a.2 + b.2) := Rt.of (by have := LQ_add a.2 b.2; have := hx.LQ h1; have := hy.LQ h1; omega)
      exact ⟨⟨_, Ev.fls d1 (Ev.fls d2 (Ev.bind (hx.at_.add hy.at_ h1 (by omega)) Ev.pure)), rfl, by omega, hq⟩, _, Ev.fls d1 (Ev.fls d2 (Ev.bind (hx.at_.radd hy.at_ h1 (by omega)) Ev.pure)), rfl, by omega, hq⟩
    · have d2 : (!decide (y.1 = 0)) = true := by rw [hy.far, dec_f c2]; rfl
      rw [if_neg (fun h => h c), if_pos c2]
      exact ⟨⟨_, Ev.fls d1 (Ev.tru d2 Ev.pure), hy.mono hm⟩, _, Ev.fls d1 (Ev.tru d2 Ev.pure), hy.mono hm⟩
  · have d1 : (!decide (x.1 = 0)) = true := by rw [hx.far, dec_f c]; rfl
    rw [if_pos c]
    exact ⟨⟨_, Ev.tru d1 Ev.pure, hx.mono hm⟩, _, Ev.tru d1 Ev.pure, hx.mono hm⟩

theorem Ee.neg (hx : Ee M x a) (h1 : 1 ≤ M) (hM : M ≤ 1000000000) : (∃ e, Ev (fun k => approx_neg.f k x) e ∧ Ee (2 * M) e (miE a)) ∧ ∃ e, Ev (fun k => ref04_minus.f k x) e ∧ Ee (2 * M) e (miE a) := by
  have hw : IntKind.i64.wrap (0 - x.1) = -a.1 := by
    have := hx.far; have := hx.ok
    rw [wrap_i64 (by omega) (by omega)]; omega
  have hq : Rt (2 * M) (rat (-a.2)) (-a.2) := Rt.of (by rw [LQ_neg]; exact hx.LQ h1)
  have ho : -a.1 = -1 ∨ -a.1 = 0 ∨ -a.1 = 1 := by have := hx.ok; omega
  unfold approx_neg.f approx_neg.e ref04_minus.f ref04_minus.e
  rw [hw]
  exact ⟨⟨_, Ev.bind (hx.at_.neg h1 (by omega)) Ev.pure, rfl, ho, hq⟩, _, Ev.bind (hx.at_.rneg h1 (by omega)) Ev.pure, rfl, ho, hq⟩

theorem Ee.sign (hx : Ee M x a) (h1 : 1 ≤ M) (hM : M ≤ 1000000000) : Ev (fun k => _approx_end_sign.f k x) (sgE a) ∧ Ev (fun k => ref04_signOf.f k x) (sgE a) := by
  unfold _approx_end_sign.f _approx_end_sign.e ref04_signOf.f ref04_signOf.e sgE
  by_cases c : a.1 = 0
  · have d1 : (!decide (x.1 = 0)) = false := by rw [hx.far, dec_t c]; rfl
    rw [if_neg (fun h => h c)]
    exact ⟨Ev.fls d1 (Ev.bind (hx.at_.sign h1 (by omega)) Ev.pure), Ev.fls d1 (Ev.bind (hx.at_.rsign h1 (by omega)) Ev.pure)⟩
  · have d1 : (!decide (x.1 = 0)) = true := by rw [hx.far, dec_f c]; rfl
    rw [if_pos c, ← hx.far]
    exact ⟨Ev.tru d1 Ev.pure, Ev.tru d1 Ev.pure⟩

theorem sgE_cases (ha : a.1 = -1 ∨ a.1 = 0 ∨ a.1 = 1) : sgE a = -1 ∨ sgE a = 0 ∨ sgE a = 1 := by
  unfold sgE
  by_cases c : a.1 = 0
  · rw [if_neg (fun h => h c)]
    have := sign_cases a.2.num
    omega
  · rw [if_pos c]; exact ha
theorem mul_cases {s t : Int} (hs : s = -1 ∨ s = 0 ∨ s = 1) (ht : t = -1 ∨ t = 0 ∨ t = 1) : s * t = -1 ∨ s * t = 0 ∨ s * t = 1 := by
  rcases hs with rfl | rfl | rfl <;> rcases ht with rfl | rfl | rfl <;> decide

theorem sgE_zero {a : EN} (h : sgE a = 0) : a = (0, 0) ∨ (a.1 = 0 ∧ a.2 = 0) := by
  unfold sgE at h
  by_cases c : a.1 = 0
  · rw [if_neg (fun h => h c)] at h
    exact .inr ⟨c, by have := Int.sign_eq_zero_iff_zero.1 h; exact Rat.num_eq_zero.1 this⟩
  · rw [if_pos c] at h; exact absurd h c

theorem muE_ok (ha : a.1 = -1 ∨ a.1 = 0 ∨ a.1 = 1) (hb : b.1 = -1 ∨ b.1 = 0 ∨ b.1 = 1) : (muE a b).1 = -1 ∨ (muE a b).1 = 0 ∨ (muE a b).1 = 1 := by
  unfold muE
  split
  · omega
  · exact mul_cases (sgE_cases ha) (sgE_cases hb)

theorem Ee.mul (hx : Ee M x a) (hy : Ee M y b) (h1 : 1 ≤ M) (hM : M ≤ 1000000000) : (∃ e, Ev (fun k => approx_mul.f k x y) e ∧ Ee (4 * M) e (muE a b)) ∧ ∃ e, Ev (fun k => ref04_times.f k x y) e ∧ Ee (4 * M) e (muE a b) := by
  have ok := muE_ok hx.ok hy.ok
  obtain ⟨s1, t1⟩ := hx.sign h1 hM
  obtain ⟨s2, t2⟩ := hy.sign h1 hM
  have hsx := sgE_cases hx.ok
  have hsy := sgE_cases hy.ok
  have hss := mul_cases hsx hsy
  have hw : IntKind.i64.wrap (sgE a * sgE b) = sgE a * sgE b := wrap_i64 (by omega) (by omega)
  have hf : Ev (fun k => approx_mul.p7 k x y (0, noRat)) (sgE a * sgE b, noRat) := by
    refine Ev.turn (fun k => approx_mul.p7_succ k _ _ _) ?_
    unfold approx_mul.e7
    refine Ev.bind s1 (Ev.bind s2 ?_)
    rw [hw]; exact Ev.pure
  have hr : Ev (fun k => ref04_times.p11 k (0, noRat) (sgE a * sgE b)) (sgE a * sgE b, noRat) := by
    refine Ev.turn (fun k => ref04_times.p11_succ k _ _) ?_
    unfold ref04_times.e11; exact Ev.pure
  unfold approx_mul.f approx_mul.e ref04_times.f ref04_times.e
  by_cases c : a.1 = 0 ∧ b.1 = 0
  · have e : muE a b = (0, a.2 * b.2) := by unfold muE; rw [if_pos c]
    rw [e]
    have hq : Rt (4 * M) (rat (a.2 * b.2)) (a.2 * b.2) := Rt.of (by have := LQ_mul a.2 b.2; have := hx.LQ h1; have := hy.LQ h1; omega)
    refine ⟨⟨_, Ev.tru (by rw [hx.far, dec_t c.1]) (Ev.tru (by rw [hy.far, dec_t c.2]) (Ev.bind (hx.at_.mul hy.at_ h1 (by omega)) Ev.pure)), rfl, by omega, hq⟩, ?_⟩
    by_cases z : sgE a * sgE b = 0
    · have z2 : a.2 * b.2 = 0 := by
        rcases Int.mul_eq_zero.1 z with z | z
        · rcases sgE_zero z with z | z
          · rw [z, Rat.zero_mul]
          · rw [z.2, Rat.zero_mul]
        · rcases sgE_zero z with z | z
          · rw [z, Rat.mul_zero]
          · rw [z.2, Rat.mul_zero]
      rw [z2]
      exact ⟨(0, noRat), Ev.bind t1 (Ev.bind t2 (Ev.tru (by rw [hw, dec_t z]) Ev.pure)), rfl, by omega, noRat_rt⟩
    · exact ⟨_, Ev.bind t1 (Ev.bind t2 (Ev.fls (by rw [hw, dec_f z]) (Ev.fls (by rw [hx.far, dec_t c.1]; rfl) (Ev.fls (by rw [hy.far, dec_t c.2]; rfl) (Ev.bind (hx.at_.rmul hy.at_ h1 (by omega)) Ev.pure))))), rfl, by omega, hq⟩
  · have e : muE a b = (sgE a * sgE b, 0) := by unfold muE; rw [if_neg c]
    rw [e] at ok ⊢
    refine ⟨⟨(sgE a * sgE b, noRat), ?_, rfl, ok, noRat_rt⟩, ?_⟩
    · by_cases c1 : a.1 = 0
      · exact Ev.tru (by rw [hx.far, dec_t c1]) (Ev.fls (by rw [hy.far, dec_f (fun h => c ⟨c1, h⟩)]) hf)
      · exact Ev.fls (by rw [hx.far, dec_f c1]) hf
    · by_cases z : sgE a * sgE b = 0
      · rw [z]
        exact ⟨(0, noRat), Ev.bind t1 (Ev.bind t2 (Ev.tru (by rw [hw, dec_t z]) Ev.pure)), rfl, by omega, noRat_rt⟩
      · refine ⟨(sgE a * sgE b, noRat), Ev.bind t1 (Ev.bind t2 (Ev.fls (by rw [hw, dec_f z]) ?_)), rfl, ok, noRat_rt⟩
        rw [hw]
        by_cases c1 : a.1 = 0
        · exact Ev.fls (by rw [hx.far, dec_t c1]; rfl) (Ev.tru (by rw [hy.far, dec_f (fun h => c ⟨c1, h⟩)]; rfl) hr)
        · exact Ev.tru (by rw [hx.far, dec_f c1]; rfl) hr

theorem num_sign_inv (q : Rat) : q⁻¹.num.sign = q.num.sign := by
  rw [Rat.num_inv, Int.sign_mul, Int.sign_sign]
  rw [Int.sign_eq_one_of_pos (a := (q.den : Int)) (by have := q.den_pos; omega), Int.mul_one]

theorem Ee.div (hx : Ee M x a) (hy : Ee M y b) (h1 : 1 ≤ M) (hM : M ≤ 1000000000) (hb : b.1 = 0 → b.2 ≠ 0) : (∃ e, Ev (fun k => approx_div.f k x y) e ∧ Ee (5 * M) e (muE a (ivE b))) ∧ ∃ e, Ev (fun k => ref04_over.f k x y) e ∧ Ee (5 * M) e (muE a (ivE b)) := by
  obtain ⟨s2, t2⟩ := hy.sign h1 hM
  have hsy := sgE_cases hy.ok
  have hss := mul_cases hx.ok hsy
  have hw : IntKind.i64.wrap (x.1 * sgE b) = a.1 * sgE b := by rw [hx.far]; exact wrap_i64 (by omega) (by omega)
  unfold approx_div.f approx_div.e ref04_over.f ref04_over.e ivE
  by_cases c2 : b.1 = 0
  · have d2 : (!decide (y.1 = 0)) = false := by rw [hy.far, dec_t c2]; rfl
    rw [if_neg (fun h => h c2)]
    by_cases c : a.1 = 0
    · have d1 : (!decide (x.1 = 0)) = false := by rw [hx.far, dec_t c]; rfl
      have e : muE a (0, b.2⁻¹) = (0, a.2 * b.2⁻¹) := by unfold muE; rw [if_pos ⟨c, rfl⟩]
      rw [e]
      have hq : Rt (5 * M) (rat (a.2 * b.2⁻¹)) (a.2 * b.2⁻¹) := Rt.of (by have := LQ_mul a.2 b.2⁻¹; have := LQ_inv b.2; have := hx.LQ h1; have := hy.LQ h1; omega)
      exact ⟨⟨(0, _), Ev.fls d2 (Ev.fls d1 (Ev.bind (hx.at_.div hy.at_ h1 (by omega) (hb c2)) Ev.pure)), rfl, by omega, hq⟩, (0, _), Ev.fls d2 (Ev.fls d1 (Ev.bind (hx.at_.rdiv hy.at_ h1 (by omega) (hb c2)) Ev.pure)), rfl, by omega, hq⟩
    · have d1 : (!decide (x.1 = 0)) = true := by rw [hx.far, dec_f c]; rfl
      have e : muE a (0, b.2⁻¹) = (a.1 * sgE b, 0) := by
        unfold muE sgE
        rw [if_neg (fun h => c h.1), if_pos c, if_neg (fun h => h rfl), if_neg (fun h => h c2), num_sign_inv]
      rw [e]
      refine ⟨⟨(a.1 * sgE b, noRat), Ev.fls d2 (Ev.tru d1 (Ev.bind s2 ?_)), rfl, hss, noRat_rt⟩, (a.1 * sgE b, noRat), Ev.fls d2 (Ev.tru d1 (Ev.bind t2 ?_)), rfl, hss, noRat_rt⟩
      · rw [hw]; exact Ev.pure
      · rw [hw]; exact Ev.pure
  · have d2 : (!decide (y.1 = 0)) = true := by rw [hy.far, dec_f c2]; rfl
    rw [if_pos c2]
    have e : muE a (0, 0) = (0, 0) := by
      unfold muE sgE
      by_cases c : a.1 = 0
      · rw [if_pos ⟨c, rfl⟩, Rat.mul_zero]
      · rw [if_neg (fun h => c h.1)]; simp
    rw [e]
    exact ⟨⟨_, Ev.tru d2 Ev.pure, rfl, by omega, noRat_rt⟩, _, Ev.tru d2 Ev.pure, rfl, by omega, noRat_rt⟩
end

end Go.FK


/- The least span over ends: the program's and the reference's. -/
namespace Go.FK
open Flt

/-- Rounded down, rounded up. -/
def DnF (a : EN) (x : Nat) : Prop := (a.1 = 1 ∧ x = 9218868437227405312) ∨ (a.1 = -1 ∧ x = 18442240474082181120) ∨ (a.1 = 0 ∧ ∃ k b, Pl a.2 k b ∧ x = dnB a.2 k b)
def UpF (a : EN) (x : Nat) : Prop := (a.1 = 1 ∧ x = 9218868437227405312) ∨ (a.1 = -1 ∧ x = 18442240474082181120) ∨ (a.1 = 0 ∧ ∃ k b, Pl a.2 k b ∧ x = upB a.2 k b)

section
variable {M : Nat} {e : EE} {a b : EN} {x y : Nat}
theorem DnF.ex (h : Ee M e a) (h1 : 1 ≤ M) (hM : M ≤ 400000000000) : ∃ x, DnF a x := by
  rcases h.ok with c | c | c
  · exact ⟨_, .inr (.inl ⟨c, rfl⟩)⟩
  · obtain ⟨k, b, hp, _⟩ := h.at_.pl h1 hM
    exact ⟨_, .inr (.inr ⟨c, k, b, hp, rfl⟩)⟩
  · exact ⟨_, .inl ⟨c, rfl⟩⟩
theorem UpF.ex (h : Ee M e a) (h1 : 1 ≤ M) (hM : M ≤ 400000000000) : ∃ x, UpF a x := by
  rcases h.ok with c | c | c
  · exact ⟨_, .inr (.inl ⟨c, rfl⟩)⟩
  · obtain ⟨k, b, hp, _⟩ := h.at_.pl h1 hM
    exact ⟨_, .inr (.inr ⟨c, k, b, hp, rfl⟩)⟩
  · exact ⟨_, .inl ⟨c, rfl⟩⟩
theorem DnF.same (h : DnF a x) (g : a.1 = b.1 ∧ (a.1 = 0 → a.2 = b.2)) : DnF b x := by
  unfold DnF at *
  rcases h with ⟨c, h⟩ | ⟨c, h⟩ | ⟨c, h⟩
  · exact .inl ⟨g.1 ▸ c, h⟩
  · exact .inr (.inl ⟨g.1 ▸ c, h⟩)
  · rw [g.2 c] at h; exact .inr (.inr ⟨g.1 ▸ c, h⟩)
theorem UpF.same (h : UpF a x) (g : a.1 = b.1 ∧ (a.1 = 0 → a.2 = b.2)) : UpF b x := by
  unfold UpF at *
  rcases h with ⟨c, h⟩ | ⟨c, h⟩ | ⟨c, h⟩
  · exact .inl ⟨g.1 ▸ c, h⟩
  · exact .inr (.inl ⟨g.1 ▸ c, h⟩)
  · rw [g.2 c] at h; exact .inr (.inr ⟨g.1 ▸ c, h⟩)

theorem bits_ev (b : Int) : Ev (fun k => Option.bind (math_Float64frombits.f k b) fun r => some r) b.toNat := by
  unfold math_Float64frombits.f
  exact Ev.bind Ev.pure Ev.pure

theorem float_dn (h : Ee M e a) (hM : M ≤ 400000000000) (hx : DnF a x) : Ev (fun k => ref04_float.f k e false) x := by
  unfold ref04_float.f ref04_float.e
  rcases hx with ⟨c, rfl⟩ | ⟨c, rfl⟩ | ⟨c, k, b, hp, rfl⟩
  · exact Ev.tru (dec_t (by rw [h.far, c]; omega)) (bits_ev 9218868437227405312)
  · exact Ev.fls (dec_f (by rw [h.far, c]; omega)) (Ev.tru (dec_t (by rw [h.far, c]; omega)) (bits_ev 18442240474082181120))
  · exact Ev.fls (dec_f (by rw [h.far, c]; omega)) (Ev.fls (dec_f (by rw [h.far, c]; omega)) (Ev.fls rfl (Ev.bind (h.at_.rdown hM hp) Ev.pure)))
theorem float_up (h : Ee M e a) (hM : M ≤ 400000000000) (hx : UpF a x) : Ev (fun k => ref04_float.f k e true) x := by
  unfold ref04_float.f ref04_float.e
  rcases hx with ⟨c, rfl⟩ | ⟨c, rfl⟩ | ⟨c, k, b, hp, rfl⟩
  · exact Ev.tru (dec_t (by rw [h.far, c]; omega)) (bits_ev 9218868437227405312)
  · exact Ev.fls (dec_f (by rw [h.far, c]; omega)) (Ev.tru (dec_t (by rw [h.far, c]; omega)) (bits_ev 18442240474082181120))
  · exact Ev.fls (dec_f (by rw [h.far, c]; omega)) (Ev.fls (dec_f (by rw [h.far, c]; omega)) (Ev.tru rfl (Ev.bind (h.at_.rup hM hp) Ev.pure)))
end

theorem inf_ev (f : Int) : Ev (fun k => math_Inf.f k f) (if 0 ≤ f then 9218868437227405312 else 18442240474082181120) := by
  have q11 : ∀ b : Int, Ev (fun k => math_Inf.p11 k b) b.toNat := fun b => by
    refine Ev.turn (fun k => math_Inf.p11_succ k _) ?_
    unfold math_Inf.e11; exact bits_ev b
  unfold math_Inf.f math_Inf.e
  by_cases c : 0 ≤ f
  · rw [if_pos c]; exact Ev.tru (dec_t c) (q11 9218868437227405312)
  · rw [if_neg c]; exact Ev.fls (dec_f c) (q11 18442240474082181120)

def mn (a e : EN) : EN := if ec e.1 e.2 a.1 a.2 < 0 then e else a
def mx (b e : EN) : EN := if 0 < ec e.1 e.2 b.1 b.2 then e else b

theorem mn_le (a e : EN) : Le (mn a e) a ∧ Le (mn a e) e := by
  unfold mn
  split
  · rename_i h
    exact ⟨not_le ((ec_lt_iff e a).1 h), Le.refl _⟩
  · rename_i h
    exact ⟨Le.refl _, Classical.byContradiction fun g => h ((ec_lt_iff e a).2 g)⟩
theorem mx_ge (b e : EN) : Le b (mx b e) ∧ Le e (mx b e) := by
  unfold mx
  split
  · rename_i h
    exact ⟨not_le ((ec_gt_iff e b).1 h), Le.refl _⟩
  · rename_i h
    exact ⟨Le.refl _, Classical.byContradiction fun g => h ((ec_gt_iff e b).2 g)⟩
theorem mn_self (a : EN) : mn a a = a := by unfold mn; split <;> rfl
theorem mx_self (a : EN) : mx a a = a := by unfold mx; split <;> rfl

section
variable {M : Nat} {l : List EE} {A : List EN}
theorem span_loop (h1 : 1 ≤ M) (hM : M ≤ 100000000000) (hlen : l.length = A.length) (hsm : l.length ≤ 1000) (hl : ∀ i (hi : i < l.length), Ee M l[i] (A[i]'(by omega))) {x y : Nat} : ∀ (n i : Nat), l.length - i = n → i ≤ l.length → ∀ (lo hi : EE) (a b : EN), Ee M lo a → Ee M hi b →
    DnF ((A.drop i).foldl mn a) x → UpF ((A.drop i).foldl mx b) y → Ev (fun k => approx_span.p0 k (0, 0) lo hi l (l.length : Int) (i : Int)) (x, y) := by
  intro n
  induction n with
  | zero =>
    intro i hn hle lo hi a b hlo hhi hx hy
    have hi' : i = l.length := by omega
    subst hi'
    rw [List.drop_eq_nil_of_le (by omega)] at hx hy
    simp only [List.foldl_nil] at hx hy
    have p31 : ∀ z : Nat × Nat, Ev (fun k => approx_span.p31 k (0, 0) z) z := fun z => by
      refine Ev.turn (fun k => approx_span.p31_succ k _ _) ?_
      unfold approx_span.e31; exact Ev.pure
    have p27 : ∀ z : Nat × Nat, z.1 = x → z.2 = (if 0 ≤ hi.1 then 9218868437227405312 else 18442240474082181120) → Ev (fun k => approx_span.p27 k (0, 0) hi z) (x, y) := fun z hz hz2 => by
      refine Ev.turn (fun k => approx_span.p27_succ k _ _ _) ?_
      unfold approx_span.e27
      rw [hhi.far] at hz2
      rcases hy with ⟨c, rfl⟩ | ⟨c, rfl⟩ | ⟨c, k, d, hp, rfl⟩
      · refine Ev.fls (dec_f (by rw [hhi.far, c]; omega)) ?_
        rw [if_pos (by omega)] at hz2
        rw [← hz, ← hz2]
        exact p31 z
      · refine Ev.fls (dec_f (by rw [hhi.far, c]; omega)) ?_
        rw [if_neg (by omega)] at hz2
        rw [← hz, ← hz2]
        exact p31 z
      · refine Ev.tru (dec_t (by rw [hhi.far, c])) (Ev.bind (hhi.at_.up h1 (by omega) hp) ?_)
        rw [← hz]
        exact p31 _
    refine Ev.turn (fun k => approx_span.p0_succ k _ _ _ _ _ _) ?_
    unfold approx_span.e0
    refine Ev.fls (dec_f (by omega)) (Ev.bind (inf_ev _) (Ev.bind (inf_ev _) ?_))
    rw [hlo.far]
    rcases hx with ⟨c, rfl⟩ | ⟨c, rfl⟩ | ⟨c, k, d, hp, rfl⟩
    · exact Ev.fls (dec_f (by omega)) (p27 _ (if_pos (by omega)) rfl)
    · exact Ev.fls (dec_f (by omega)) (p27 _ (if_neg (by omega)) rfl)
    · exact Ev.tru (dec_t c) (Ev.bind (hlo.at_.down h1 (by omega) hp) (p27 _ rfl rfl))
  | succ n ih =>
    intro i hn hle lo hi a b hlo hhi hx hy
    have hil : i < l.length := by omega
    have hiA : i < A.length := by omega
    have he := hl i hil
    rw [List.drop_eq_getElem_cons hiA] at hx hy
    simp only [List.foldl_cons] at hx hy
    have hnth : nthD ((0 : Int), ((false, ([] : List Int)), ([] : List Int))) l (Int.toNat (i : Int)) = l[i] := by
      rw [Int.toNat_natCast, nthD_eq, List.getD_eq_getElem?_getD, List.getElem?_eq_getElem hil]; rfl
    have p19 : ∀ lo' hi', Ee M lo' (mn a A[i]) → Ee M hi' (mx b A[i]) → Ev (fun k => approx_span.p19 k (0, 0) lo' hi' l (l.length : Int) (i : Int)) (x, y) := fun lo' hi' g1 g2 => by
      refine Ev.turn (fun k => approx_span.p19_succ k _ _ _ _ _ _) ?_
      unfold approx_span.e19
      rw [wrap_i64 (by omega) (by omega), show (i : Int) + 1 = ((i + 1 : Nat) : Int) by omega]
      exact ih (i + 1) (by omega) (by omega) lo' hi' _ _ g1 g2 hx hy
    have p15 : ∀ lo', Ee M lo' (mn a A[i]) → Ev (fun k => approx_span.p15 k (0, 0) lo' hi l[i] l (l.length : Int) (i : Int)) (x, y) := fun lo' g1 => by
      refine Ev.turn (fun k => approx_span.p15_succ k _ _ _ _ _ _ _) ?_
      unfold approx_span.e15
      refine Ev.bind (he.cmp hhi h1 hM) ?_
      by_cases c : 0 < ec A[i].1 A[i].2 b.1 b.2
      · refine Ev.tru (dec_t c) (p19 _ _ g1 ?_)
        unfold mx; rw [if_pos c]; exact he
      · refine Ev.fls (dec_f c) (p19 _ _ g1 ?_)
        unfold mx; rw [if_neg c]; exact hhi
    refine Ev.turn (fun k => approx_span.p0_succ k _ _ _ _ _ _) ?_
    unfold approx_span.e0
    rw [hnth]
    refine Ev.tru (dec_t (by omega)) (Ev.tru (by rw [dec_t (by omega), dec_t (by omega)]; rfl) (Ev.bind (he.cmp hlo h1 hM) ?_))
    by_cases c : ec A[i].1 A[i].2 a.1 a.2 < 0
    · refine Ev.tru (dec_t c) (p15 _ ?_)
      unfold mn; rw [if_pos c]; exact he
    · refine Ev.fls (dec_f c) (p15 _ ?_)
      unfold mn; rw [if_neg c]; exact hlo

theorem span_ev {e : EE} {a : EN} (h1 : 1 ≤ M) (hM : M ≤ 100000000000) (hlen : l.length = A.length) (hsm : l.length < 1000) (hl : ∀ i (hi : i < l.length), Ee M l[i] (A[i]'(by omega))) (he : Ee M e a) {x y : Nat} (hx : DnF (A.foldl mn a) x) (hy : UpF (A.foldl mx a) y) : Ev (fun k => approx_span.f k (e :: l)) (x, y) := by
  unfold approx_span.f approx_span.e
  have hp : (0 : Int) < ((e :: l).length : Int) := by simp only [List.length_cons]; omega
  refine Ev.tru (dec_t hp) (Ev.tru (dec_t hp) ?_)
  refine span_loop (l := e :: l) (A := a :: A) h1 hM (by simp [hlen]) (by simp only [List.length_cons]; omega) (fun i hi => ?_) (e :: l).length 0 (by omega) (by omega) e e a a he he ?_ ?_
  · cases i with
    | zero => exact he
    | succ i => exact hl i (by simpa using hi)
  · simpa [mn_self] using hx
  · simpa [mx_self] using hy
end

/-! ### The reference's -/
abbrev E4 := EE × EE × EE × EE
def sl (t : E4) (i : Int) : EE := if i = 0 then t.1 else if i = 1 then t.2.1 else if i = 2 then t.2.2.1 else t.2.2.2

theorem hull_step {M : Nat} {t : E4} {i : Int} {lo hi : EE} {a b c : EN} {R : Nat × Nat} (h1 : 1 ≤ M) (hM : M ≤ 100000000000) (hi' : i = 1 ∨ i = 2 ∨ i = 3) (he : Ee M (sl t i) c) (hlo : Ee M lo a) (hhi : Ee M hi b)
    (h : ∀ lo' hi', Ee M lo' (mn a c) → Ee M hi' (mx b c) → Ev (fun k => ref04_hull.p0 k t (0, 0) lo' hi' (i + 1)) R) : Ev (fun k => ref04_hull.p0 k t (0, 0) lo hi i) R := by
  have p11 : ∀ lo' hi', Ee M lo' (mn a c) → Ee M hi' (mx b c) → Ev (fun k => ref04_hull.p11 k t (0, 0) lo' hi' i) R := fun lo' hi' g1 g2 => by
    refine Ev.turn (fun k => ref04_hull.p11_succ k _ _ _ _ _) ?_
    unfold ref04_hull.e11
    rw [wrap_i64 (by omega) (by omega)]
    exact h lo' hi' g1 g2
  have p17 : ∀ lo', Ee M lo' (mn a c) → Ev (fun k => ref04_hull.p17 k t (0, 0) lo' hi i) R := fun lo' g1 => by
    refine Ev.turn (g := fun k => Option.bind (ref04_under.f k hi (sl t i)) fun r => bif r then ref04_hull.p19 k t (0, 0) lo' hi i else ref04_hull.p11 k t (0, 0) lo' hi i) (fun k => ?_) ?_
    · rw [ref04_hull.p17_succ]; unfold ref04_hull.e17; rcases hi' with rfl | rfl | rfl <;> rfl
    · refine Ev.bind (hhi.under he h1 hM) ?_
      by_cases g : ec b.1 b.2 c.1 c.2 < 0
      · refine Ev.tru (dec_t g) (Ev.turn (g := fun k => ref04_hull.p11 k t (0, 0) lo' (sl t i) i) (fun k => ?_) (p11 _ _ g1 ?_))
        · rw [ref04_hull.p19_succ]; unfold ref04_hull.e19; rcases hi' with rfl | rfl | rfl <;> rfl
        · unfold mx
          rw [if_pos ((ec_gt_iff c b).2 ((ec_lt_iff b c).1 g))]; exact he
      · refine Ev.fls (dec_f g) (p11 _ _ g1 ?_)
        unfold mx
        rw [if_neg (fun h => g ((ec_lt_iff b c).2 ((ec_gt_iff c b).1 h)))]; exact hhi
  refine Ev.turn (g := fun k => Option.bind (ref04_under.f k (sl t i) lo) fun r => bif r then ref04_hull.p15 k t (0, 0) lo hi i else ref04_hull.p17 k t (0, 0) lo hi i) (fun k => ?_) ?_
  · rw [ref04_hull.p0_succ]; unfold ref04_hull.e0; rcases hi' with rfl | rfl | rfl <;> rfl
  · refine Ev.bind (he.under hlo h1 hM) ?_
    by_cases g : ec c.1 c.2 a.1 a.2 < 0
    · refine Ev.tru (dec_t g) (Ev.turn (g := fun k => ref04_hull.p17 k t (0, 0) (sl t i) hi i) (fun k => ?_) (p17 _ ?_))
      · rw [ref04_hull.p15_succ]; unfold ref04_hull.e15; rcases hi' with rfl | rfl | rfl <;> rfl
      · unfold mn; rw [if_pos g]; exact he
    · refine Ev.fls (dec_f g) (p17 _ ?_)
      unfold mn; rw [if_neg g]; exact hlo

theorem hull_ev {M : Nat} {e0 e1 e2 e3 : EE} {a0 a1 a2 a3 : EN} (h1 : 1 ≤ M) (hM : M ≤ 100000000000) (g0 : Ee M e0 a0) (g1 : Ee M e1 a1) (g2 : Ee M e2 a2) (g3 : Ee M e3 a3) {x y : Nat}
    (hx : DnF ([a1, a2, a3].foldl mn a0) x) (hy : UpF ([a1, a2, a3].foldl mx a0) y) : Ev (fun k => ref04_hull.f k (e0, e1, e2, e3)) (x, y) := by
  unfold ref04_hull.f ref04_hull.e
  refine hull_step h1 hM (.inl rfl) (c := a1) g1 g0 g0 fun lo1 hi1 l1 u1 => ?_
  refine hull_step h1 hM (.inr (.inl rfl)) (c := a2) g2 l1 u1 fun lo2 hi2 l2 u2 => ?_
  refine hull_step h1 hM (.inr (.inr rfl)) (c := a3) g3 l2 u2 fun lo3 hi3 l3 u3 => ?_
  refine Ev.turn (fun k => ref04_hull.p0_succ k _ _ _ _ _) ?_
  unfold ref04_hull.e0
  exact Ev.fls (by decide) (Ev.bind (float_dn l3 (by omega) hx) (Ev.bind (float_up u3 (by omega) hy) Ev.pure))

end Go.FK


/- Sum, Diff, Prod, Quot: the program's and the reference's; ApproxSpans. -/
namespace Go.FK
open Flt

def loE (a : Nat × Nat) : EN := (farOf a.1, atOf a.1)
def hiE (a : Nat × Nat) : EN := (farOf a.2, atOf a.2)

section
variable {a b : Nat × Nat}
theorem Vd.loE (h : Vd a) (h1 : a.1 < 18446744073709551616) : Ee 300 (enOf a.1) (loE a) := enOf_er h1 h.lo
theorem Vd.hiE (h : Vd a) (h2 : a.2 < 18446744073709551616) : Ee 300 (enOf a.2) (hiE a) := enOf_er h2 h.hi
theorem Vd.lo_far (h : Vd a) : (FK.loE a).1 = -1 ∨ (FK.loE a).1 = 0 := by
  unfold FK.loE farOf
  dsimp only
  rw [if_neg h.nlo]
  split
  · exact .inl rfl
  · exact .inr rfl
theorem Vd.hi_far (h : Vd a) : (FK.hiE a).1 = 0 ∨ (FK.hiE a).1 = 1 := by
  unfold FK.hiE farOf
  dsimp only
  split
  · exact .inr rfl
  · rw [if_neg h.nhi]; exact .inl rfl
theorem Vd.lh (h : Vd a) (h1 : a.1 < 18446744073709551616) (h2 : a.2 < 18446744073709551616) : Le (FK.loE a) (FK.hiE a) := by
  have := ec_R h2 h1 h.hi h.lo
  have h3 : ¬ (R a.2 < R a.1) := by have := h.le; omega
  rw [← this] at h3
  exact Classical.byContradiction fun g => h3 ((ec_lt_iff (FK.hiE a) (FK.loE a)).2 g)

theorem plE_le {p q r s : EN} (hp : p.1 = -1 ∨ p.1 = 0) (hq : q.1 = -1 ∨ q.1 = 0) (hr : r.1 = 0 ∨ r.1 = 1) (hs : s.1 = 0 ∨ s.1 = 1) (h : Le p r) (g : Le q s) : Le (plE p q) (plE r s) := by
  rw [le_iff] at *
  unfold plE
  by_cases c1 : p.1 = 0
  · rw [if_neg (fun h => h c1)]
    by_cases c2 : q.1 = 0
    · rw [if_neg (fun h => h c2)]
      by_cases c3 : r.1 = 0
      · rw [if_neg (fun h => h c3)]
        by_cases c4 : s.1 = 0
        · rw [if_neg (fun h => h c4)]
          refine .inr ⟨rfl, .inr ?_⟩
          have h' : p.2 ≤ r.2 := by
            rcases h with h | ⟨_, h | h⟩
            · omega
            · omega
            · exact h
          have g' : q.2 ≤ s.2 := by
            rcases g with g | ⟨_, g | g⟩
            · omega
            · omega
            · exact g
          show p.2 + q.2 ≤ r.2 + s.2
          grind
        · rw [if_pos c4]; exact .inl (by show (0 : Int) < s.1; omega)
      · rw [if_pos c3]; exact .inl (by show (0 : Int) < r.1; omega)
    · rw [if_pos c2]
      split
      · exact .inl (by omega)
      · split
        · exact .inl (by omega)
        · exact .inl (by show q.1 < (0 : Int); omega)
  · rw [if_pos c1]
    split
    · exact .inl (by omega)
    · split
      · exact .inl (by omega)
      · exact .inl (by show p.1 < (0 : Int); omega)

/-- The span of two ends in order. -/
theorem span2 {M : Nat} {e f : EE} {p q : EN} (h1 : 1 ≤ M) (hM : M ≤ 100000000000) (he : Ee M e p) (hf : Ee M f q) (h : Le p q) {x y : Nat} (hx : DnF p x) (hy : UpF q y) : Ev (fun k => approx_span.f k [e, f]) (x, y) := by
  refine span_ev (l := [f]) (A := [q]) h1 hM rfl (by simp) (fun i hi => ?_) he ?_ ?_
  · have : i = 0 := by simpa using hi
    subst this
    exact hf
  · show DnF (mn p q) x
    unfold mn
    rw [if_neg (fun g => (ec_lt_iff q p).1 g h)]
    exact hx
  · show UpF (mx p q) y
    unfold mx
    split
    · exact hy
    · rename_i c
      have g : Le q p := Classical.byContradiction fun g => c ((ec_gt_iff q p).2 g)
      exact hy.same (Le.same g h)

theorem both_ev {v w : Bool} (hv : Ev (fun k => approx_Valid.f k a) v) (hw : Ev (fun k => approx_Valid.f k b) w) : Ev (fun k => approx_both.f k a b) (v && w) := by
  unfold approx_both.f approx_both.e
  cases v
  · exact Ev.bind hv (Ev.fls rfl Ev.pure)
  · exact Ev.bind hv (Ev.tru rfl (Ev.bind hw Ev.pure))

/-- Both may be. -/
structure VV (a b : Nat × Nat) : Prop where
  a1 : a.1 < 18446744073709551616
  a2 : a.2 < 18446744073709551616
  b1 : b.1 < 18446744073709551616
  b2 : b.2 < 18446744073709551616
  va : Vd a
  vb : Vd b

theorem VV.both (h : VV a b) : Ev (fun k => approx_both.f k a b) true ∧ Ev (fun k => ref04_Valid.f k a) true ∧ Ev (fun k => ref04_Valid.f k b) true := by
  obtain ⟨v, hv, v1, v2⟩ := valid_ev h.a1 h.a2
  obtain ⟨w, hw, w1, w2⟩ := valid_ev h.b1 h.b2
  rw [hv.2 h.va] at v1 v2
  rw [hw.2 h.vb] at w1 w2
  exact ⟨both_ev v1 w1, v2, w2⟩

/-- What a span of two ends is. -/
def Sp (p q : EN) (s : Nat × Nat) : Prop := DnF p s.1 ∧ UpF q s.2

theorem VV.sum (h : VV a b) : ∃ s, Ev (fun k => approx_Sum.f k a b) (s, (0 : Int)) ∧ Ev (fun k => ref04_Sum.f k a b) (s, (0 : Int)) ∧ Sp (plE (loE a) (loE b)) (plE (hiE a) (hiE b)) s := by
  obtain ⟨hb, hv, hw⟩ := h.both
  obtain ⟨⟨e1, p1, r1⟩, e1', p1', r1'⟩ := (h.va.loE h.a1).add (h.vb.loE h.b1) (by omega) (by omega)
  obtain ⟨⟨e2, p2, r2⟩, e2', p2', r2'⟩ := (h.va.hiE h.a2).add (h.vb.hiE h.b2) (by omega) (by omega)
  obtain ⟨x, hx⟩ := DnF.ex r1 (by omega) (by omega)
  obtain ⟨y, hy⟩ := UpF.ex r2 (by omega) (by omega)
  refine ⟨(x, y), ?_, ?_, hx, hy⟩
  · unfold approx_Sum.f approx_Sum.e
    exact Ev.bind hb (Ev.fls rfl (Ev.bind (endOf_ev h.a1 h.va.lo) (Ev.bind (endOf_ev h.b1 h.vb.lo) (Ev.bind p1 (Ev.bind (endOf_ev h.a2 h.va.hi) (Ev.bind (endOf_ev h.b2 h.vb.hi) (Ev.bind p2
      (Ev.bind (span2 (by omega) (by omega) r1 r2 (plE_le h.va.lo_far h.vb.lo_far h.va.hi_far h.vb.hi_far (h.va.lh h.a1 h.a2) (h.vb.lh h.b1 h.b2)) hx hy) Ev.pure))))))))
  · unfold ref04_Sum.f ref04_Sum.e
    exact Ev.bind hv (Ev.fls rfl (Ev.bind hw (Ev.fls rfl (Ev.bind (rendOf_ev h.a1 h.va.lo) (Ev.bind (rendOf_ev h.b1 h.vb.lo) (Ev.bind p1' (Ev.bind (rendOf_ev h.a2 h.va.hi) (Ev.bind (rendOf_ev h.b2 h.vb.hi) (Ev.bind p2'
      (Ev.bind (float_dn r1' (by omega) hx) (Ev.bind (float_up r2' (by omega) hy) Ev.pure)))))))))))

theorem miE_le {p q : EN} (h : Le p q) : Le (miE q) (miE p) := by
  rw [le_iff] at *
  unfold miE
  rcases h with h | ⟨h, h' | h'⟩
  · exact .inl (by show -q.1 < -p.1; omega)
  · exact .inr ⟨by show -q.1 = -p.1; omega, .inl (by show -q.1 ≠ 0; omega)⟩
  · exact .inr ⟨by show -q.1 = -p.1; omega, .inr (by show -q.2 ≤ -p.2; grind)⟩

theorem VV.diff (h : VV a b) : ∃ s, Ev (fun k => approx_Diff.f k a b) (s, (0 : Int)) ∧ Ev (fun k => ref04_Diff.f k a b) (s, (0 : Int)) ∧ Sp (plE (loE a) (miE (hiE b))) (plE (hiE a) (miE (loE b))) s := by
  obtain ⟨hb, hv, hw⟩ := h.both
  obtain ⟨⟨f1, n1, m1⟩, f1', n1', m1'⟩ := (h.vb.loE h.b1).neg (by omega) (by omega)
  obtain ⟨⟨f2, n2, m2⟩, f2', n2', m2'⟩ := (h.vb.hiE h.b2).neg (by omega) (by omega)
  have ea := (h.va.loE h.a1).mono (show 300 ≤ 600 by omega)
  have ea2 := (h.va.hiE h.a2).mono (show 300 ≤ 600 by omega)
  obtain ⟨⟨e1, p1, r1⟩, _⟩ := Ee.add (a := loE a) ea m2 (by omega) (by omega)
  obtain ⟨_, e1', p1', r1'⟩ := Ee.add (a := loE a) ea m2' (by omega) (by omega)
  obtain ⟨⟨e2, p2, r2⟩, _⟩ := Ee.add (a := hiE a) ea2 m1 (by omega) (by omega)
  obtain ⟨_, e2', p2', r2'⟩ := Ee.add (a := hiE a) ea2 m1' (by omega) (by omega)
  obtain ⟨x, hx⟩ := DnF.ex r1 (by omega) (by omega)
  obtain ⟨y, hy⟩ := UpF.ex r2 (by omega) (by omega)
  have q1 := h.vb.lo_far
  have q2 := h.vb.hi_far
  have hle := plE_le h.va.lo_far (q := miE (hiE b)) (by show -(hiE b).1 = -1 ∨ -(hiE b).1 = 0; omega) h.va.hi_far (s := miE (loE b)) (by show -(loE b).1 = 0 ∨ -(loE b).1 = 1; omega) (h.va.lh h.a1 h.a2) (miE_le (h.vb.lh h.b1 h.b2))
  refine ⟨(x, y), ?_, ?_, hx, hy⟩
  · unfold approx_Diff.f approx_Diff.e
    exact Ev.bind hb (Ev.fls rfl (Ev.bind (endOf_ev h.a1 h.va.lo) (Ev.bind (endOf_ev h.b2 h.vb.hi) (Ev.bind n2 (Ev.bind p1 (Ev.bind (endOf_ev h.a2 h.va.hi) (Ev.bind (endOf_ev h.b1 h.vb.lo) (Ev.bind n1 (Ev.bind p2
      (Ev.bind (span2 (by omega) (by omega) r1 r2 hle hx hy) Ev.pure))))))))))
  · unfold ref04_Diff.f ref04_Diff.e
    exact Ev.bind hv (Ev.fls rfl (Ev.bind hw (Ev.fls rfl (Ev.bind (rendOf_ev h.a1 h.va.lo) (Ev.bind (rendOf_ev h.b2 h.vb.hi) (Ev.bind n2' (Ev.bind p1' (Ev.bind (rendOf_ev h.a2 h.va.hi) (Ev.bind (rendOf_ev h.b1 h.vb.lo) (Ev.bind n1' (Ev.bind p2'
      (Ev.bind (float_dn r1' (by omega) hx) (Ev.bind (float_up r2' (by omega) hy) Ev.pure)))))))))))))
end

/-! ### The four mul -/
section
variable {a b : Nat × Nat} {R : Nat × Nat}
theorem f46_row {acc : List EE} {x : Nat} {i : Int} {r1 r2 : EE} (hi : i = 0 ∨ i = 1) (hl : acc.length ≤ 10) {X Y1 Y2 : EE} (hx : Ev (fun k => approx_endOf.f k x) X) (h1 : Ev (fun k => approx_endOf.f k b.1) Y1) (h2 : Ev (fun k => approx_endOf.f k b.2) Y2)
    (m1 : Ev (fun k => approx_mul.f k X Y1) r1) (m2 : Ev (fun k => approx_mul.f k X Y2) r2) (h : Ev (fun k => approx_four_f46.p0 k b (0, 0) (acc ++ [r1] ++ [r2]) a (i + 1)) R) : Ev (fun k => approx_four_f46.p11 k b (0, 0) acc x a i) R := by
  refine Ev.turn (fun k => approx_four_f46.p11_succ k _ _ _ _ _ _) ?_
  unfold approx_four_f46.e11
  refine Ev.turn (fun k => approx_four_f46.p4_succ k _ _ _ _ _ _ _ _) ?_
  unfold approx_four_f46.e4
  refine Ev.tru rfl (Ev.tru rfl (Ev.turn (fun k => approx_four_f46.p17_succ k _ _ _ _ _ _ _ _ _) ?_))
  unfold approx_four_f46.e17
  refine Ev.bind hx (Ev.bind h1 (Ev.bind m1 (Ev.tru ?_ ?_)))
  · simp only [List.length_singleton, Bool.and_eq_true, Nat.ble_eq]; omega
  refine Ev.turn (fun k => approx_four_f46.p4_succ k _ _ _ _ _ _ _ _) ?_
  unfold approx_four_f46.e4
  refine Ev.tru rfl (Ev.fls rfl (Ev.tru rfl (Ev.turn (fun k => approx_four_f46.p17_succ k _ _ _ _ _ _ _ _ _) ?_)))
  unfold approx_four_f46.e17
  refine Ev.bind hx (Ev.bind h2 (Ev.bind m2 (Ev.tru ?_ ?_)))
  · simp only [List.length_append, List.length_singleton, Bool.and_eq_true, Nat.ble_eq]; omega
  refine Ev.turn (fun k => approx_four_f46.p4_succ k _ _ _ _ _ _ _ _) ?_
  unfold approx_four_f46.e4
  refine Ev.fls rfl ?_
  rw [wrap_i64 (by omega) (by omega)]
  exact h

theorem f46_ev {X1 X2 Y1 Y2 r0 r1 r2 r3 : EE} (hx1 : Ev (fun k => approx_endOf.f k a.1) X1) (hx2 : Ev (fun k => approx_endOf.f k a.2) X2) (h1 : Ev (fun k => approx_endOf.f k b.1) Y1) (h2 : Ev (fun k => approx_endOf.f k b.2) Y2)
    (m0 : Ev (fun k => approx_mul.f k X1 Y1) r0) (m1 : Ev (fun k => approx_mul.f k X1 Y2) r1) (m2 : Ev (fun k => approx_mul.f k X2 Y1) r2) (m3 : Ev (fun k => approx_mul.f k X2 Y2) r3) (h : Ev (fun k => approx_span.f k [r0, r1, r2, r3]) R) : Ev (fun k => approx_four_f46.f k a b ()) R := by
  unfold approx_four_f46.f approx_four_f46.e
  refine Ev.turn (fun k => approx_four_f46.p0_succ k _ _ _ _ _) ?_
  unfold approx_four_f46.e0
  refine Ev.tru rfl (Ev.tru rfl (f46_row (a := a) (.inl rfl) (by simp) hx1 h1 h2 m0 m1 ?_))
  refine Ev.turn (fun k => approx_four_f46.p0_succ k _ _ _ _ _) ?_
  unfold approx_four_f46.e0
  refine Ev.tru rfl (Ev.fls rfl (Ev.tru rfl (f46_row (a := a) (.inr rfl) (by simp) hx2 h1 h2 m2 m3 ?_)))
  refine Ev.turn (fun k => approx_four_f46.p0_succ k _ _ _ _ _) ?_
  unfold approx_four_f46.e0
  exact Ev.fls rfl (Ev.bind h Ev.pure)
end

/-! ### The four div -/
section
variable {a b : Nat × Nat} {R : Nat × Nat}
theorem f49_row {acc : List EE} {x : Nat} {i : Int} {r1 r2 : EE} (hi : i = 0 ∨ i = 1) (hl : acc.length ≤ 10) {X Y1 Y2 : EE} (hx : Ev (fun k => approx_endOf.f k x) X) (h1 : Ev (fun k => approx_endOf.f k b.1) Y1) (h2 : Ev (fun k => approx_endOf.f k b.2) Y2)
    (m1 : Ev (fun k => approx_div.f k X Y1) r1) (m2 : Ev (fun k => approx_div.f k X Y2) r2) (h : Ev (fun k => approx_four_f49.p0 k b (0, 0) (acc ++ [r1] ++ [r2]) a (i + 1)) R) : Ev (fun k => approx_four_f49.p11 k b (0, 0) acc x a i) R := by
  refine Ev.turn (fun k => approx_four_f49.p11_succ k _ _ _ _ _ _) ?_
  unfold approx_four_f49.e11
  refine Ev.turn (fun k => approx_four_f49.p4_succ k _ _ _ _ _ _ _ _) ?_
  unfold approx_four_f49.e4
  refine Ev.tru rfl (Ev.tru rfl (Ev.turn (fun k => approx_four_f49.p17_succ k _ _ _ _ _ _ _ _ _) ?_))
  unfold approx_four_f49.e17
  refine Ev.bind hx (Ev.bind h1 (Ev.bind m1 (Ev.tru ?_ ?_)))
  · simp only [List.length_singleton, Bool.and_eq_true, Nat.ble_eq]; omega
  refine Ev.turn (fun k => approx_four_f49.p4_succ k _ _ _ _ _ _ _ _) ?_
  unfold approx_four_f49.e4
  refine Ev.tru rfl (Ev.fls rfl (Ev.tru rfl (Ev.turn (fun k => approx_four_f49.p17_succ k _ _ _ _ _ _ _ _ _) ?_)))
  unfold approx_four_f49.e17
  refine Ev.bind hx (Ev.bind h2 (Ev.bind m2 (Ev.tru ?_ ?_)))
  · simp only [List.length_append, List.length_singleton, Bool.and_eq_true, Nat.ble_eq]; omega
  refine Ev.turn (fun k => approx_four_f49.p4_succ k _ _ _ _ _ _ _ _) ?_
  unfold approx_four_f49.e4
  refine Ev.fls rfl ?_
  rw [wrap_i64 (by omega) (by omega)]
  exact h

theorem f49_ev {X1 X2 Y1 Y2 r0 r1 r2 r3 : EE} (hx1 : Ev (fun k => approx_endOf.f k a.1) X1) (hx2 : Ev (fun k => approx_endOf.f k a.2) X2) (h1 : Ev (fun k => approx_endOf.f k b.1) Y1) (h2 : Ev (fun k => approx_endOf.f k b.2) Y2)
    (m0 : Ev (fun k => approx_div.f k X1 Y1) r0) (m1 : Ev (fun k => approx_div.f k X1 Y2) r1) (m2 : Ev (fun k => approx_div.f k X2 Y1) r2) (m3 : Ev (fun k => approx_div.f k X2 Y2) r3) (h : Ev (fun k => approx_span.f k [r0, r1, r2, r3]) R) : Ev (fun k => approx_four_f49.f k a b ()) R := by
  unfold approx_four_f49.f approx_four_f49.e
  refine Ev.turn (fun k => approx_four_f49.p0_succ k _ _ _ _ _) ?_
  unfold approx_four_f49.e0
  refine Ev.tru rfl (Ev.tru rfl (f49_row (a := a) (.inl rfl) (by simp) hx1 h1 h2 m0 m1 ?_))
  refine Ev.turn (fun k => approx_four_f49.p0_succ k _ _ _ _ _) ?_
  unfold approx_four_f49.e0
  refine Ev.tru rfl (Ev.fls rfl (Ev.tru rfl (f49_row (a := a) (.inr rfl) (by simp) hx2 h1 h2 m2 m3 ?_)))
  refine Ev.turn (fun k => approx_four_f49.p0_succ k _ _ _ _ _) ?_
  unfold approx_four_f49.e0
  exact Ev.fls rfl (Ev.bind h Ev.pure)
end

/-- The least and the greatest of four. -/
def lo4 (p q r s : EN) : EN := [q, r, s].foldl mn p
def hi4 (p q r s : EN) : EN := [q, r, s].foldl mx p

theorem span4 {M : Nat} {e0 e1 e2 e3 : EE} {p q r s : EN} (h1 : 1 ≤ M) (hM : M ≤ 100000000000) (g0 : Ee M e0 p) (g1 : Ee M e1 q) (g2 : Ee M e2 r) (g3 : Ee M e3 s) {x y : Nat} (hx : DnF (lo4 p q r s) x) (hy : UpF (hi4 p q r s) y) : Ev (fun k => approx_span.f k [e0, e1, e2, e3]) (x, y) := by
  refine span_ev (l := [e1, e2, e3]) (A := [q, r, s]) h1 hM rfl (by simp) (fun i hi => ?_) g0 hx hy
  match i, hi with
  | 0, _ => exact g1
  | 1, _ => exact g2
  | 2, _ => exact g3

theorem mn_or (a e : EN) : mn a e = a ∨ mn a e = e := by unfold mn; split <;> simp
theorem mx_or (a e : EN) : mx a e = a ∨ mx a e = e := by unfold mx; split <;> simp
theorem mn_ok {P : EN → Prop} {a e : EN} (h : P a) (g : P e) : P (mn a e) := by rcases mn_or a e with h' | h' <;> rw [h'] <;> assumption
theorem mx_ok {P : EN → Prop} {a e : EN} (h : P a) (g : P e) : P (mx a e) := by rcases mx_or a e with h' | h' <;> rw [h'] <;> assumption

theorem four_ex {M : Nat} {e0 e1 e2 e3 : EE} {p q r s : EN} (h1 : 1 ≤ M) (hM : M ≤ 100000000000) (g0 : Ee M e0 p) (g1 : Ee M e1 q) (g2 : Ee M e2 r) (g3 : Ee M e3 s) : (∃ x, DnF (lo4 p q r s) x) ∧ ∃ y, UpF (hi4 p q r s) y := by
  have hP : ∃ e, Ee M e (lo4 p q r s) := by
    unfold lo4
    simp only [List.foldl_cons, List.foldl_nil]
    exact mn_ok (P := fun z => ∃ e, Ee M e z) (mn_ok (P := fun z => ∃ e, Ee M e z) (mn_ok (P := fun z => ∃ e, Ee M e z) ⟨_, g0⟩ ⟨_, g1⟩) ⟨_, g2⟩) ⟨_, g3⟩
  have hQ : ∃ e, Ee M e (hi4 p q r s) := by
    unfold hi4
    simp only [List.foldl_cons, List.foldl_nil]
    exact mx_ok (P := fun z => ∃ e, Ee M e z) (mx_ok (P := fun z => ∃ e, Ee M e z) (mx_ok (P := fun z => ∃ e, Ee M e z) ⟨_, g0⟩ ⟨_, g1⟩) ⟨_, g2⟩) ⟨_, g3⟩
  exact ⟨DnF.ex hP.choose_spec h1 (by omega), UpF.ex hQ.choose_spec h1 (by omega)⟩

section
variable {a b : Nat × Nat}
/-- The four products. -/
def lowM (a b : Nat × Nat) : EN := lo4 (muE (loE a) (loE b)) (muE (loE a) (hiE b)) (muE (hiE a) (loE b)) (muE (hiE a) (hiE b))
def higM (a b : Nat × Nat) : EN := hi4 (muE (loE a) (loE b)) (muE (loE a) (hiE b)) (muE (hiE a) (loE b)) (muE (hiE a) (hiE b))
def lowD (a b : Nat × Nat) : EN := lo4 (muE (loE a) (ivE (loE b))) (muE (loE a) (ivE (hiE b))) (muE (hiE a) (ivE (loE b))) (muE (hiE a) (ivE (hiE b)))
def higD (a b : Nat × Nat) : EN := hi4 (muE (loE a) (ivE (loE b))) (muE (loE a) (ivE (hiE b))) (muE (hiE a) (ivE (loE b))) (muE (hiE a) (ivE (hiE b)))

theorem VV.prod (h : VV a b) : ∃ s, Ev (fun k => approx_Prod.f k a b) (s, (0 : Int)) ∧ Ev (fun k => ref04_Prod.f k a b) (s, (0 : Int)) ∧ Sp (lowM a b) (higM a b) s := by
  obtain ⟨hb, hv, hw⟩ := h.both
  have A1 := h.va.loE h.a1
  have A2 := h.va.hiE h.a2
  have B1 := h.vb.loE h.b1
  have B2 := h.vb.hiE h.b2
  obtain ⟨⟨e0, p0, r0⟩, f0, q0, s0⟩ := A1.mul B1 (by omega) (by omega)
  obtain ⟨⟨e1, p1, r1⟩, f1, q1, s1⟩ := A1.mul B2 (by omega) (by omega)
  obtain ⟨⟨e2, p2, r2⟩, f2, q2, s2⟩ := A2.mul B1 (by omega) (by omega)
  obtain ⟨⟨e3, p3, r3⟩, f3, q3, s3⟩ := A2.mul B2 (by omega) (by omega)
  obtain ⟨⟨x, hx⟩, y, hy⟩ := four_ex (by omega) (by omega) r0 r1 r2 r3
  refine ⟨(x, y), ?_, ?_, hx, hy⟩
  · unfold approx_Prod.f approx_Prod.e
    exact Ev.bind hb (Ev.fls rfl (Ev.bind (f46_ev (endOf_ev h.a1 h.va.lo) (endOf_ev h.a2 h.va.hi) (endOf_ev h.b1 h.vb.lo) (endOf_ev h.b2 h.vb.hi) p0 p1 p2 p3 (span4 (by omega) (by omega) r0 r1 r2 r3 hx hy)) Ev.pure))
  · unfold ref04_Prod.f ref04_Prod.e
    exact Ev.bind hv (Ev.fls rfl (Ev.bind hw (Ev.fls rfl (Ev.bind (rendOf_ev h.a1 h.va.lo) (Ev.bind (rendOf_ev h.a2 h.va.hi) (Ev.bind (rendOf_ev h.b1 h.vb.lo) (Ev.bind (rendOf_ev h.b2 h.vb.hi) (Ev.bind q0 (Ev.bind q1 (Ev.bind q2 (Ev.bind q3
      (Ev.bind (hull_ev (by omega) (by omega) s0 s1 s2 s3 hx hy) Ev.pure))))))))))))

/-- Where 0 stands. -/
theorem Vd.zero (h : Vd b) (h1 : b.1 < 18446744073709551616) (h2 : b.2 < 18446744073709551616) : (R b.1 ≤ 0 ↔ Le (FK.loE b) (0, 0)) ∧ (R b.2 ≥ 0 ↔ Le (0, 0) (FK.hiE b)) := by
  have z1 : farOf 0 = 0 := by decide
  have z2 : atOf 0 = 0 := by
    unfold atOf
    rw [if_neg (by omega), if_neg (by omega)]
    unfold val num
    rw [show S (0 / 9223372036854775808 % 2 == 1) (0 % 9223372036854775808) = 0 by decide]
    simp [Rat.div_def]
  constructor
  · have e := ec_R (x := 0) (by omega) h1 isN_zero h.lo
    rw [z1, z2, R_zero] at e
    have e2 := ec_lt_iff ((0, 0) : EN) (FK.loE b)
    rw [← Int.not_lt, ← e]
    exact ⟨fun h => Classical.byContradiction fun g => h (e2.2 g), fun h g => e2.1 g h⟩
  · have e := ec_R (y := 0) h2 (by omega) h.hi isN_zero
    rw [z1, z2, R_zero] at e
    have e2 := ec_lt_iff (FK.hiE b) ((0, 0) : EN)
    show 0 ≤ R b.2 ↔ _
    rw [← Int.not_lt, ← e]
    exact ⟨fun h => Classical.byContradiction fun g => h (e2.2 g), fun h g => e2.1 g h⟩
end

end Go.FK


/- Quot. -/
namespace Go.FK
open Flt

section
variable {a b : Nat × Nat}
theorem le0 {x : Nat} (h : isN x = false) : (fLt x 0 || fEq x 0) = decide (R x ≤ 0) := by
  rw [fLt_eq h isN_zero, fEq_eq h isN_zero, R_zero]
  by_cases c : R x ≤ 0
  · rw [dec_t c, Bool.or_eq_true, decide_eq_true_eq, decide_eq_true_eq]; omega
  · rw [dec_f c, dec_f (by omega), dec_f (by omega)]; rfl
theorem ge0 {x : Nat} (h : isN x = false) : (fGt x 0 || fEq x 0) = decide (R x ≥ 0) := by
  rw [fGt_eq h isN_zero, fEq_eq h isN_zero, R_zero]
  by_cases c : R x ≥ 0
  · rw [dec_t c, Bool.or_eq_true, decide_eq_true_eq, decide_eq_true_eq]; omega
  · rw [dec_f c, dec_f (by omega), dec_f (by omega)]; rfl

theorem VV.quot_zero (h : VV a b) (hz : Hs b 0) : Ev (fun k => approx_Quot.f k a b) (((0, 0) : Nat × Nat), (11 : Int)) ∧ Ev (fun k => ref04_Quot.f k a b) (((0, 0) : Nat × Nat), (11 : Int)) := by
  obtain ⟨hb, hv, hw⟩ := h.both
  obtain ⟨z1, z2⟩ := h.vb.zero h.b1 h.b2
  obtain ⟨t, ht, _, t2⟩ := in_ev (noRat_rt (M := 1)) (by omega) (by omega) h.b1 h.b2
  rw [ht.2 hz] at t2
  constructor
  · unfold approx_Quot.f approx_Quot.e
    exact Ev.bind hb (Ev.fls rfl (Ev.tru (by rw [le0 h.vb.lo]; exact dec_t (z1.2 hz.lo)) (Ev.tru (by rw [ge0 h.vb.hi]; exact dec_t (z2.2 hz.hi)) Ev.pure)))
  · unfold ref04_Quot.f ref04_Quot.e
    exact Ev.bind hv (Ev.fls rfl (Ev.bind hw (Ev.fls rfl (Ev.bind t2 (Ev.tru rfl Ev.pure)))))

theorem VV.nz (h : VV a b) (hz : ¬ Hs b 0) : ((loE b).1 = 0 → (loE b).2 ≠ 0) ∧ ((hiE b).1 = 0 → (hiE b).2 ≠ 0) := by
  have hl := h.vb.lh h.b1 h.b2
  constructor
  · intro c e
    have e1 : Le (loE b) (0, 0) := (le_iff _ _).2 (.inr ⟨c, .inr (by rw [e]; exact Rat.le_refl)⟩)
    have e2 : Le (0, 0) (loE b) := (le_iff _ _).2 (.inr ⟨c.symm, .inr (by rw [e]; exact Rat.le_refl)⟩)
    exact hz ⟨h.vb, e1, e2.trans hl⟩
  · intro c e
    have e1 : Le (hiE b) (0, 0) := (le_iff _ _).2 (.inr ⟨c, .inr (by rw [e]; exact Rat.le_refl)⟩)
    have e2 : Le (0, 0) (hiE b) := (le_iff _ _).2 (.inr ⟨c.symm, .inr (by rw [e]; exact Rat.le_refl)⟩)
    exact hz ⟨h.vb, hl.trans e1, e2⟩

theorem VV.quot (h : VV a b) (hz : ¬ Hs b 0) : ∃ s, Ev (fun k => approx_Quot.f k a b) (s, (0 : Int)) ∧ Ev (fun k => ref04_Quot.f k a b) (s, (0 : Int)) ∧ Sp (lowD a b) (higD a b) s := by
  obtain ⟨hb, hv, hw⟩ := h.both
  obtain ⟨z1, z2⟩ := h.vb.zero h.b1 h.b2
  obtain ⟨n1, n2⟩ := h.nz hz
  obtain ⟨t, ht, _, t2⟩ := in_ev (noRat_rt (M := 1)) (by omega) (by omega) h.b1 h.b2
  have htf : t = false := by
    cases t with
    | false => rfl
    | true => exact absurd (ht.1 rfl) hz
  rw [htf] at t2
  have A1 := h.va.loE h.a1
  have A2 := h.va.hiE h.a2
  have B1 := h.vb.loE h.b1
  have B2 := h.vb.hiE h.b2
  obtain ⟨⟨e0, p0, r0⟩, f0, q0, s0⟩ := A1.div B1 (by omega) (by omega) n1
  obtain ⟨⟨e1, p1, r1⟩, f1, q1, s1⟩ := A1.div B2 (by omega) (by omega) n2
  obtain ⟨⟨e2, p2, r2⟩, f2, q2, s2⟩ := A2.div B1 (by omega) (by omega) n1
  obtain ⟨⟨e3, p3, r3⟩, f3, q3, s3⟩ := A2.div B2 (by omega) (by omega) n2
  obtain ⟨⟨x, hx⟩, y, hy⟩ := four_ex (by omega) (by omega) r0 r1 r2 r3
  refine ⟨(x, y), ?_, ?_, hx, hy⟩
  · have p11 : Ev (fun k => approx_Quot.p11 k a b (0, 0)) (((x, y) : Nat × Nat), (0 : Int)) := by
      refine Ev.turn (fun k => approx_Quot.p11_succ k _ _ _) ?_
      unfold approx_Quot.e11
      exact Ev.bind (f49_ev (endOf_ev h.a1 h.va.lo) (endOf_ev h.a2 h.va.hi) (endOf_ev h.b1 h.vb.lo) (endOf_ev h.b2 h.vb.hi) p0 p1 p2 p3 (span4 (by omega) (by omega) r0 r1 r2 r3 hx hy)) Ev.pure
    unfold approx_Quot.f approx_Quot.e
    refine Ev.bind hb (Ev.fls rfl ?_)
    rw [le0 h.vb.lo, ge0 h.vb.hi]
    by_cases c : R b.1 ≤ 0
    · by_cases c2 : R b.2 ≥ 0
      · exact absurd ⟨h.vb, z1.1 c, z2.1 c2⟩ hz
      · exact Ev.tru (dec_t c) (Ev.fls (dec_f c2) p11)
    · exact Ev.fls (dec_f c) p11
  · unfold ref04_Quot.f ref04_Quot.e
    exact Ev.bind hv (Ev.fls rfl (Ev.bind hw (Ev.fls rfl (Ev.bind t2 (Ev.fls rfl (Ev.bind (rendOf_ev h.a1 h.va.lo) (Ev.bind (rendOf_ev h.a2 h.va.hi) (Ev.bind (rendOf_ev h.b1 h.vb.lo) (Ev.bind (rendOf_ev h.b2 h.vb.hi) (Ev.bind q0 (Ev.bind q1 (Ev.bind q2 (Ev.bind q3
      (Ev.bind (hull_ev (by omega) (by omega) s0 s1 s2 s3 hx hy) Ev.pure))))))))))))))

end

end Go.FK
