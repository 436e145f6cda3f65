
/- What a span of spans has: ApproxEncloses. -/
import Derived.Test.YtaggjlegalmiaaaGreatM6
namespace Go.FK
open Flt

theorem atOf_zero : farOf 0 = 0 ∧ atOf 0 = 0 := by
  refine ⟨by decide, ?_⟩
  unfold atOf
  rw [if_neg (by omega), if_neg (by omega)]
  unfold val num
  rw [show S (0 / 9223372036854775808 % 2 == 1) (0 % 9223372036854775808) = 0 by decide]
  simp [Rat.div_def]

/-! ### Ends rounded outwards -/
theorem DnF.le {lo : EN} {x : Nat} {p : Rat} (h : DnF lo x) (hl : Le lo (0, p)) : x < 18446744073709551616 ∧ isN x = false ∧ x ≠ 9218868437227405312 ∧ Le (farOf x, atOf x) (0, p) := by
  rcases h with ⟨c, rfl⟩ | ⟨c, rfl⟩ | ⟨c, k, b, hp, rfl⟩
  · rw [le_iff] at hl
    rcases hl with hl | ⟨hl, _⟩
    · have : lo.1 < 0 := hl
      omega
    · have : lo.1 = 0 := hl
      omega
  · refine ⟨by omega, by decide, by omega, (le_iff _ _).2 (.inl ?_)⟩
    show farOf 18442240474082181120 < 0
    decide
  · obtain ⟨d1, d2, d3⟩ := dnB_lt hp
    refine ⟨d1, d2, d3, Le.trans (b := (0, lo.2)) (dn_le hp) ?_⟩
    have e : lo = (0, lo.2) := by rw [← c]
    rw [← e]; exact hl
theorem UpF.ge {hi : EN} {x : Nat} {p : Rat} (h : UpF hi x) (hl : Le (0, p) hi) : x < 18446744073709551616 ∧ isN x = false ∧ x ≠ 18442240474082181120 ∧ Le (0, p) (farOf x, atOf x) := by
  rcases h with ⟨c, rfl⟩ | ⟨c, rfl⟩ | ⟨c, k, b, hp, rfl⟩
  · refine ⟨by omega, by decide, by omega, (le_iff _ _).2 (.inl ?_)⟩
    show 0 < farOf 9218868437227405312
    decide
  · rw [le_iff] at hl
    rcases hl with hl | ⟨hl, _⟩
    · have : 0 < hi.1 := hl
      omega
    · have : 0 = hi.1 := hl
      omega
  · obtain ⟨d1, d2, d3⟩ := upB_lt hp
    refine ⟨d1, d2, d3, Le.trans (b := (0, hi.2)) ?_ (up_ge hp)⟩
    have e : hi = (0, hi.2) := by rw [← c]
    rw [← e]; exact hl

theorem Sp.hs {lo hi : EN} {s : Nat × Nat} {p : Rat} (h : Sp lo hi s) (hl : Le lo (0, p)) (hh : Le (0, p) hi) : s.1 < 18446744073709551616 ∧ s.2 < 18446744073709551616 ∧ Hs s p := by
  obtain ⟨a1, a2, a3, a4⟩ := h.1.le hl
  obtain ⟨b1, b2, b3, b4⟩ := h.2.ge hh
  refine ⟨a1, b1, ⟨a2, b2, ?_, a3, b3⟩, a4, b4⟩
  have h1 := ec_R b1 a1 b2 a2
  have h2 : ¬ R s.2 < R s.1 := fun g => (ec_lt_iff (farOf s.2, atOf s.2) (farOf s.1, atOf s.1)).1 (h1.2 g) (a4.trans b4)
  omega

/-! ### Products of ends -/
abbrev Ok (a : EN) : Prop := a.1 = -1 ∨ a.1 = 0 ∨ a.1 = 1

theorem muE_comm (a b : EN) : muE a b = muE b a := by
  unfold muE
  by_cases c : a.1 = 0 ∧ b.1 = 0
  · rw [if_pos c, if_pos ⟨c.2, c.1⟩, Rat.mul_comm]
  · rw [if_neg c, if_neg (fun h => c ⟨h.2, h.1⟩), Int.mul_comm]

theorem sgE_mi (a : EN) : sgE (miE a) = - sgE a := by
  unfold sgE miE
  by_cases c : a.1 = 0
  · rw [if_neg (fun h => h (by show -a.1 = 0; omega)), if_neg (fun h => h c), Rat.neg_num, Int.sign_neg]
  · rw [if_pos (by show -a.1 ≠ 0; omega), if_pos c]

theorem muE_mi (a b : EN) : muE a (miE b) = miE (muE a b) := by
  by_cases c : a.1 = 0 ∧ b.1 = 0
  · have e1 : muE a (miE b) = (0, a.2 * -b.2) := by
      unfold muE
      rw [if_pos ⟨c.1, by show -b.1 = 0; omega⟩]
      rfl
    have e2 : muE a b = (0, a.2 * b.2) := by unfold muE; rw [if_pos c]
    rw [e1, e2, Rat.mul_neg]
    rfl
  · have e1 : muE a (miE b) = (sgE a * sgE (miE b), 0) := by
      unfold muE
      rw [if_neg (fun h => c ⟨h.1, by have : -b.1 = 0 := h.2; omega⟩)]
    have e2 : muE a b = (sgE a * sgE b, 0) := by unfold muE; rw [if_neg c]
    rw [e1, e2, sgE_mi, Int.mul_neg]
    show _ = (-(sgE a * sgE b), -(0 : Rat))
    rw [Rat.neg_zero]

theorem miE_mi (a : EN) : miE (miE a) = a := by
  unfold miE
  show (- -a.1, - -a.2) = a
  rw [Int.neg_neg, Rat.neg_neg]

theorem sign_le {p q : Rat} (h : p ≤ q) : p.num.sign ≤ q.num.sign := by
  have h1 := sign_cases p.num
  have h2 := sign_cases q.num
  rcases (show p.num < 0 ∨ p.num = 0 ∨ 0 < p.num by omega) with c | c | c
  · rw [Int.sign_eq_neg_one_of_neg c]; omega
  · have : p = 0 := Rat.num_eq_zero.1 c
    subst this
    have := Rat.num_nonneg.2 h
    rw [c]
    rcases (show q.num = 0 ∨ 0 < q.num by omega) with g | g
    · rw [g]; exact Int.le_refl _
    · rw [Int.sign_eq_one_of_pos g]; decide
  · have : 0 ≤ q := Rat.le_trans (Rat.num_nonneg.1 (by omega)) h
    have hq : q.num ≠ 0 := fun e => by
      have e1 : q = 0 := Rat.num_eq_zero.1 e
      subst e1
      have h0 : 0 ≤ p := Rat.num_nonneg.1 (by omega)
      have := Rat.le_antisymm h h0
      subst this
      simp at c
    have := Rat.num_nonneg.2 this
    rw [Int.sign_eq_one_of_pos (show 0 < q.num by omega)]; omega

theorem sgE_le {a b : EN} (ha : Ok a) (hb : Ok b) (h : Le a b) : sgE a ≤ sgE b := by
  rw [le_iff] at h
  have h1 := sgE_cases ha
  have h2 := sgE_cases hb
  have k : ∀ z : EN, z.1 ≠ 0 → sgE z = z.1 := fun z c => by unfold sgE; rw [if_pos c]
  have k0 : ∀ z : EN, z.1 = 0 → sgE z = z.2.num.sign := fun z c => by unfold sgE; rw [if_neg (fun h => h c)]
  have ha' : a.1 = -1 ∨ a.1 = 0 ∨ a.1 = 1 := ha
  have hb' : b.1 = -1 ∨ b.1 = 0 ∨ b.1 = 1 := hb
  by_cases c : a.1 = 0
  · by_cases c2 : b.1 = 0
    · rw [k0 a c, k0 b c2]
      rcases h with h | ⟨_, h | h⟩
      · omega
      · exact absurd c h
      · exact sign_le h
    · have := k b c2
      rcases h with h | ⟨h, _⟩ <;> omega
  · have := k a c
    by_cases c2 : b.1 = 0
    · rcases h with h | ⟨h, _⟩ <;> omega
    · have := k b c2
      rcases h with h | ⟨h, _⟩ <;> omega

theorem muE_mono {x x' y : EN} (hx : Ok x) (hx' : Ok x') (hy : Ok y) (h : Le x x') (hs : 0 ≤ sgE y) : Le (muE x y) (muE x' y) := by
  by_cases hz : sgE y = 0
  · have hy2 : y.1 = 0 ∧ y.2 = 0 := by
      rcases sgE_zero hz with e | e
      · rw [e]; exact ⟨rfl, rfl⟩
      · exact e
    have k : ∀ z : EN, muE z y = (0, 0) := fun z => by
      unfold muE
      by_cases c : z.1 = 0
      · rw [if_pos ⟨c, hy2.1⟩, hy2.2, Rat.mul_zero]
      · rw [if_neg (fun h => c h.1), hz, Int.mul_zero]
    rw [k, k]; exact Le.refl _
  · have h1 : sgE y = 1 := by have := sgE_cases hy; omega
    by_cases c : y.1 = 0
    · have hp : 0 < y.2 := by
        unfold sgE at h1
        rw [if_neg (fun h => h c)] at h1
        have := Int.sign_eq_one_iff_pos.1 h1
        have h0 : 0 ≤ y.2 := Rat.num_nonneg.1 (by omega)
        rcases Rat.le_iff_lt_or_eq.1 h0 with h' | h'
        · exact h'
        · rw [← h'] at this; simp at this
      have k : ∀ z : EN, (z.1 = 0 → muE z y = (0, z.2 * y.2)) ∧ (z.1 ≠ 0 → muE z y = (z.1, 0)) := fun z => by
        unfold muE
        refine ⟨fun c2 => by rw [if_pos ⟨c2, c⟩], fun c2 => ?_⟩
        rw [if_neg (fun h => c2 h.1), h1, Int.mul_one]
        unfold sgE
        rw [if_pos c2]
      rw [le_iff] at h
      by_cases c1 : x.1 = 0
      · rw [(k x).1 c1]
        by_cases c2 : x'.1 = 0
        · rw [(k x').1 c2, le_iff]
          refine .inr ⟨rfl, .inr ?_⟩
          rcases h with h | ⟨_, h | h⟩
          · omega
          · exact absurd c1 h
          · exact Rat.mul_le_mul_of_nonneg_right h (Rat.le_of_lt hp)
        · rw [(k x').2 c2, le_iff]
          rcases h with h | ⟨h, _⟩
          · exact .inl (by show (0 : Int) < x'.1; omega)
          · omega
      · rw [(k x).2 c1]
        by_cases c2 : x'.1 = 0
        · rw [(k x').1 c2, le_iff]
          rcases h with h | ⟨h, _⟩
          · exact .inl (by show x.1 < (0 : Int); omega)
          · omega
        · rw [(k x').2 c2, le_iff]
          rcases h with h | ⟨h, _⟩
          · exact .inl h
          · exact .inr ⟨h, .inl c1⟩
    · have k : ∀ z : EN, muE z y = (sgE z, 0) := fun z => by
        unfold muE
        rw [if_neg (fun h => c h.2), h1, Int.mul_one]
      rw [k, k, le_iff]
      have := sgE_le hx hx' h
      rcases (show sgE x < sgE x' ∨ sgE x = sgE x' by omega) with h' | h'
      · exact .inl h'
      · exact .inr ⟨h', .inr Rat.le_refl⟩

theorem muE_anti {x x' y : EN} (hx : Ok x) (hx' : Ok x') (hy : Ok y) (h : Le x x') (hs : sgE y ≤ 0) : Le (muE x' y) (muE x y) := by
  have hy' : Ok (miE y) := by
    have : -y.1 = -1 ∨ -y.1 = 0 ∨ -y.1 = 1 := by omega
    exact this
  have := muE_mono hx hx' hy' h (by rw [sgE_mi]; omega)
  rw [muE_mi, muE_mi] at this
  have := miE_le this
  rwa [miE_mi, miE_mi] at this

/-- A product with a number between two ends is between the two products. -/
theorem between {la ha p q : EN} (o1 : Ok la) (o2 : Ok ha) (o3 : Ok p) (o4 : Ok q) (h1 : Le la p) (h2 : Le p ha) : (∃ x, (x = la ∨ x = ha) ∧ Le (muE x q) (muE p q)) ∧ ∃ x, (x = la ∨ x = ha) ∧ Le (muE p q) (muE x q) := by
  by_cases c : 0 ≤ sgE q
  · exact ⟨⟨la, .inl rfl, muE_mono o1 o3 o4 h1 c⟩, ha, .inr rfl, muE_mono o3 o2 o4 h2 c⟩
  · exact ⟨⟨ha, .inr rfl, muE_anti o3 o2 o4 h2 (by omega)⟩, la, .inl rfl, muE_anti o1 o3 o4 h1 (by omega)⟩

theorem within {la ha lb hb p q : EN} (o1 : Ok la) (o2 : Ok ha) (o3 : Ok lb) (o4 : Ok hb) (o5 : Ok p) (o6 : Ok q) (h1 : Le la p) (h2 : Le p ha) (h3 : Le lb q) (h4 : Le q hb) :
    (∃ x y, (x = la ∨ x = ha) ∧ (y = lb ∨ y = hb) ∧ Le (muE x y) (muE p q)) ∧ ∃ x y, (x = la ∨ x = ha) ∧ (y = lb ∨ y = hb) ∧ Le (muE p q) (muE x y) := by
  obtain ⟨⟨x, hx, k⟩, x', hx', k'⟩ := between o1 o2 o5 o6 h1 h2
  have ox : Ok x := by rcases hx with rfl | rfl <;> assumption
  have ox' : Ok x' := by rcases hx' with rfl | rfl <;> assumption
  obtain ⟨⟨y, hy, g⟩, _⟩ := between o3 o4 o6 ox h3 h4
  obtain ⟨_, y', hy', g'⟩ := between o3 o4 o6 ox' h3 h4
  rw [muE_comm y, muE_comm q] at g
  rw [muE_comm y', muE_comm q] at g'
  exact ⟨⟨x, y, hx, hy, g.trans k⟩, x', y', hx', hy', k'.trans g'⟩

theorem lo4_le (p q r s : EN) : Le (lo4 p q r s) p ∧ Le (lo4 p q r s) q ∧ Le (lo4 p q r s) r ∧ Le (lo4 p q r s) s := by
  unfold lo4
  simp only [List.foldl_cons, List.foldl_nil]
  have a := mn_le p q
  have b := mn_le (mn p q) r
  have c := mn_le (mn (mn p q) r) s
  exact ⟨c.1.trans (b.1.trans a.1), c.1.trans (b.1.trans a.2), c.1.trans b.2, c.2⟩
theorem hi4_ge (p q r s : EN) : Le p (hi4 p q r s) ∧ Le q (hi4 p q r s) ∧ Le r (hi4 p q r s) ∧ Le s (hi4 p q r s) := by
  unfold hi4
  simp only [List.foldl_cons, List.foldl_nil]
  have a := mx_ge p q
  have b := mx_ge (mx p q) r
  have c := mx_ge (mx (mx p q) r) s
  exact ⟨a.1.trans (b.1.trans c.1), a.2.trans (b.1.trans c.1), b.2.trans c.1, c.2⟩

theorem inv_anti {a b : Rat} (h : a ≤ b) (hab : 0 < a * b) : b⁻¹ ≤ a⁻¹ := by
  have ha : a ≠ 0 := fun e => by rw [e, Rat.zero_mul] at hab; exact absurd hab (Rat.lt_irrefl)
  have hb : b ≠ 0 := fun e => by rw [e, Rat.mul_zero] at hab; exact absurd hab (Rat.lt_irrefl)
  have k := Rat.mul_le_mul_of_nonneg_right h (Rat.le_of_lt (Rat.inv_pos.2 hab))
  have e1 : a * (a * b)⁻¹ = b⁻¹ := by grind
  have e2 : b * (a * b)⁻¹ = a⁻¹ := by grind
  rwa [e1, e2] at k

section
variable {a b : Nat × Nat} {p q : Rat}
theorem num_ok (p : Rat) : Ok ((0, p) : EN) := .inr (.inl rfl)
theorem Vd.ok (h : Vd a) : Ok (FK.loE a) ∧ Ok (FK.hiE a) := by
  have h1 := h.lo_far
  have h2 := h.hi_far
  exact ⟨by show (FK.loE a).1 = -1 ∨ (FK.loE a).1 = 0 ∨ (FK.loE a).1 = 1; omega, by show (FK.hiE a).1 = -1 ∨ (FK.hiE a).1 = 0 ∨ (FK.hiE a).1 = 1; omega⟩

theorem sum_in (ha : Hs a p) (hb : Hs b q) : Le (plE (loE a) (loE b)) (0, p + q) ∧ Le (0, p + q) (plE (hiE a) (hiE b)) :=
  ⟨plE_le (r := (0, p)) (s := (0, q)) ha.vd.lo_far hb.vd.lo_far (.inl rfl) (.inl rfl) ha.lo hb.lo, plE_le (p := (0, p)) (q := (0, q)) (.inr rfl) (.inr rfl) ha.vd.hi_far hb.vd.hi_far ha.hi hb.hi⟩

theorem diff_in (ha : Hs a p) (hb : Hs b q) : Le (plE (loE a) (miE (hiE b))) (0, p - q) ∧ Le (0, p - q) (plE (hiE a) (miE (loE b))) := by
  have q1 := hb.vd.lo_far
  have q2 := hb.vd.hi_far
  rw [Rat.sub_eq_add_neg]
  refine ⟨plE_le (r := (0, p)) (s := (0, -q)) ha.vd.lo_far (by show -(hiE b).1 = -1 ∨ -(hiE b).1 = 0; omega) (.inl rfl) (.inl rfl) ha.lo ?_, plE_le (p := (0, p)) (q := (0, -q)) (.inr rfl) (.inr rfl) ha.vd.hi_far (by show -(loE b).1 = 0 ∨ -(loE b).1 = 1; omega) ha.hi ?_⟩
  · exact miE_le (p := (0, q)) hb.hi
  · exact miE_le (q := (0, q)) hb.lo

theorem prod_in (ha : Hs a p) (hb : Hs b q) : Le (lowM a b) (0, p * q) ∧ Le (0, p * q) (higM a b) := by
  obtain ⟨o1, o2⟩ := ha.vd.ok
  obtain ⟨o3, o4⟩ := hb.vd.ok
  obtain ⟨⟨x, y, hx, hy, k⟩, x', y', hx', hy', k'⟩ := within o1 o2 o3 o4 (num_ok p) (num_ok q) ha.lo ha.hi hb.lo hb.hi
  have l := lo4_le (muE (loE a) (loE b)) (muE (loE a) (hiE b)) (muE (hiE a) (loE b)) (muE (hiE a) (hiE b))
  have g := hi4_ge (muE (loE a) (loE b)) (muE (loE a) (hiE b)) (muE (hiE a) (loE b)) (muE (hiE a) (hiE b))
  constructor
  · refine Le.trans ?_ k
    unfold lowM
    rcases hx with rfl | rfl <;> rcases hy with rfl | rfl
    · exact l.1
    · exact l.2.1
    · exact l.2.2.1
    · exact l.2.2.2
  · refine Le.trans k' ?_
    unfold higM
    rcases hx' with rfl | rfl <;> rcases hy' with rfl | rfl
    · exact g.1
    · exact g.2.1
    · exact g.2.2.1
    · exact g.2.2.2

theorem inv_in (hb : Hs b q) (hz : ¬ Hs b 0) : Le (ivE (hiE b)) (0, q⁻¹) ∧ Le (0, q⁻¹) (ivE (loE b)) ∧ q ≠ 0 := by
  have f1 := hb.vd.lo_far
  have f2 := hb.vd.hi_far
  have hl : Le (loE b) (0, q) := hb.lo
  have hh : Le (0, q) (hiE b) := hb.hi
  have hn : ¬ (Le (loE b) (0, 0) ∧ Le (0, 0) (hiE b)) := fun h => hz ⟨hb.vd, h.1, h.2⟩
  rw [le_iff] at hl hh
  rw [le_iff, le_iff] at hn
  have hl' : (loE b).1 < 0 ∨ ((loE b).1 = 0 ∧ (loE b).2 ≤ q) := by
    rcases hl with h | ⟨h, h'⟩
    · exact .inl h
    · exact .inr ⟨h, h'.resolve_left fun k => k h⟩
  have hh' : 0 < (hiE b).1 ∨ ((hiE b).1 = 0 ∧ q ≤ (hiE b).2) := by
    rcases hh with h | ⟨h, h'⟩
    · exact .inl h
    · exact .inr ⟨h.symm, h'.resolve_left fun k => k rfl⟩
  have hcase : ((loE b).1 = 0 ∧ 0 < (loE b).2) ∨ ((hiE b).1 = 0 ∧ (hiE b).2 < 0) := by
    by_cases c : (loE b).1 = 0 ∧ 0 < (loE b).2
    · exact .inl c
    · refine .inr ?_
      have k1 : (loE b).1 < 0 ∨ (loE b).1 = 0 ∧ ((loE b).1 ≠ 0 ∨ (loE b).2 ≤ 0) := by
        rcases f1 with f | f
        · exact .inl (by omega)
        · exact .inr ⟨f, .inr (Rat.not_lt.1 fun g => c ⟨f, g⟩)⟩
      refine Classical.byContradiction fun g => hn ⟨k1, ?_⟩
      rcases f2 with f | f
      · exact .inr ⟨f.symm, .inr (Rat.not_lt.1 fun g' => g ⟨f, g'⟩)⟩
      · exact .inl (by show (0 : Int) < (hiE b).1; omega)
  have mk : ∀ x y : Rat, x ≤ y → Le (0, x) (0, y) := fun x y h => (le_iff _ _).2 (.inr ⟨rfl, .inr h⟩)
  rcases hcase with ⟨c, hp⟩ | ⟨c, hp⟩
  · have hlq : (loE b).2 ≤ q := by
      rcases hl' with h | ⟨_, h⟩
      · omega
      · exact h
    have hq : 0 < q := by grind
    have e1 : ivE (loE b) = (0, (loE b).2⁻¹) := by unfold ivE; rw [if_neg (fun h => h c)]
    refine ⟨?_, ?_, fun e => by rw [e] at hq; exact absurd hq Rat.lt_irrefl⟩
    · rcases hh' with h | ⟨h, h'⟩
      · have e2 : ivE (hiE b) = (0, 0) := by unfold ivE; rw [if_pos (by omega)]
        rw [e2]
        exact mk _ _ (Rat.le_of_lt (Rat.inv_pos.2 hq))
      · have e2 : ivE (hiE b) = (0, (hiE b).2⁻¹) := by unfold ivE; rw [if_neg (fun k => k h)]
        rw [e2]
        exact mk _ _ (inv_anti h' (Rat.mul_pos hq (by grind)))
    · rw [e1]
      exact mk _ _ (inv_anti hlq (Rat.mul_pos hp hq))
  · have hlq : q ≤ (hiE b).2 := by
      rcases hh' with h | ⟨_, h⟩
      · omega
      · exact h
    have hq : q < 0 := by grind
    have e1 : ivE (hiE b) = (0, (hiE b).2⁻¹) := by unfold ivE; rw [if_neg (fun h => h c)]
    have neg2 : ∀ x y : Rat, x < 0 → y < 0 → 0 < x * y := fun x y hx hy => by
      have := Rat.mul_pos (a := -x) (b := -y) (by grind) (by grind)
      grind
    have hqi : q⁻¹ ≤ 0 := by
      have h0 := sign_le (p := q⁻¹) (q := 0)
      rcases (show q⁻¹ ≤ 0 ∨ 0 < q⁻¹ by grind) with h | h
      · exact h
      · have := Rat.inv_pos.1 h
        grind
    refine ⟨?_, ?_, fun e => by rw [e] at hq; exact absurd hq Rat.lt_irrefl⟩
    · rw [e1]
      exact mk _ _ (inv_anti hlq (neg2 _ _ hq hp))
    · rcases hl' with h | ⟨h, h'⟩
      · have e2 : ivE (loE b) = (0, 0) := by unfold ivE; rw [if_pos (by omega)]
        rw [e2]
        exact mk _ _ hqi
      · have e2 : ivE (loE b) = (0, (loE b).2⁻¹) := by unfold ivE; rw [if_neg (fun k => k h)]
        rw [e2]
        exact mk _ _ (inv_anti h' (neg2 _ _ (by grind) hq))

theorem ivE_ok (y : EN) : Ok (ivE y) := by
  unfold ivE
  split
  · exact .inr (.inl rfl)
  · exact .inr (.inl rfl)

theorem quot_in (ha : Hs a p) (hb : Hs b q) (hz : ¬ Hs b 0) : Le (lowD a b) (0, p * q⁻¹) ∧ Le (0, p * q⁻¹) (higD a b) := by
  obtain ⟨o1, o2⟩ := ha.vd.ok
  obtain ⟨i1, i2, _⟩ := inv_in hb hz
  obtain ⟨⟨x, y, hx, hy, k⟩, x', y', hx', hy', k'⟩ := within o1 o2 (ivE_ok (hiE b)) (ivE_ok (loE b)) (num_ok p) (num_ok q⁻¹) ha.lo ha.hi i1 i2
  have l := lo4_le (muE (loE a) (ivE (loE b))) (muE (loE a) (ivE (hiE b))) (muE (hiE a) (ivE (loE b))) (muE (hiE a) (ivE (hiE b)))
  have g := hi4_ge (muE (loE a) (ivE (loE b))) (muE (loE a) (ivE (hiE b))) (muE (hiE a) (ivE (loE b))) (muE (hiE a) (ivE (hiE b)))
  constructor
  · refine Le.trans ?_ k
    unfold lowD
    rcases hx with rfl | rfl <;> rcases hy with rfl | rfl
    · exact l.2.1
    · exact l.1
    · exact l.2.2.2
    · exact l.2.2.1
  · refine Le.trans k' ?_
    unfold higD
    rcases hx' with rfl | rfl <;> rcases hy' with rfl | rfl
    · exact g.2.1
    · exact g.1
    · exact g.2.2.2
    · exact g.2.2.1

theorem zero_in : Ev (fun k => approx_In.f k noRat (0, 0)) true := by
  obtain ⟨t, ht, t1, _⟩ := in_ev (noRat_rt (M := 1)) (by omega) (by omega) (a := (0, 0)) (by decide) (by decide)
  have hz : Hs (0, 0) 0 := by
    have k : Le (farOf 0, atOf 0) (0, 0) ∧ Le (0, 0) (farOf 0, atOf 0) := by
      rw [atOf_zero.1, atOf_zero.2]; exact ⟨Le.refl _, Le.refl _⟩
    exact ⟨⟨isN_zero, isN_zero, by decide, by decide, by decide⟩, k.1, k.2⟩
  rw [ht.2 hz] at t1
  exact t1

variable {M : Nat} {r s : RR}
theorem in_sp (hr : Rt M r p) (h0 : 1 ≤ M) (hM : M ≤ 1000000000) {lo hi : EN} {t : Nat × Nat} (h : Sp lo hi t) (hl : Le lo (0, p)) (hh : Le (0, p) hi) : Ev (fun k => approx_In.f k r t) true := by
  obtain ⟨t1, t2, t3⟩ := h.hs hl hh
  obtain ⟨v, hv, v1, _⟩ := in_ev hr h0 hM t1 t2
  rw [hv.2 t3] at v1
  exact v1

theorem encloses_ev (hr : Rt M r p) (hs : Rt M s q) (h0 : 1 ≤ M) (hM : M ≤ 10000000) (a1 : a.1 < 18446744073709551616) (a2 : a.2 < 18446744073709551616) (b1 : b.1 < 18446744073709551616) (b2 : b.2 < 18446744073709551616) : Ev (fun k => law04_ApproxEncloses.f k (a, b, r, s)) true := by
  obtain ⟨v, hv, v1, v2⟩ := in_ev hr h0 (by omega) a1 a2
  obtain ⟨w, hw, _, w2⟩ := in_ev hs h0 (by omega) b1 b2
  have q7 : Ev (fun k => law04_ApproxEncloses.p7 k a r) true := by
    refine Ev.turn (fun k => law04_ApproxEncloses.p7_succ k _ _) ?_
    unfold law04_ApproxEncloses.e7
    exact Ev.bind v1 (Ev.bind v2 (Ev.tru (by simp) (Ev.bind zero_in Ev.pure)))
  unfold law04_ApproxEncloses.f law04_ApproxEncloses.e
  refine Ev.bind v2 ?_
  cases v
  · exact Ev.tru rfl q7
  refine Ev.fls rfl (Ev.bind w2 ?_)
  cases w
  · exact Ev.tru rfl q7
  have ha := hv.1 rfl
  have hb := hw.1 rfl
  have h : VV a b := ⟨a1, a2, b1, b2, ha.vd, hb.vd⟩
  have lp := hr.LQ h0
  have lq := hs.LQ h0
  obtain ⟨s1, A1, _, S1⟩ := h.sum
  obtain ⟨s2, A2, _, S2⟩ := h.diff
  obtain ⟨s3, A3, _, S3⟩ := h.prod
  have d : (!decide ((0 : Int) = 0)) = false := by decide
  obtain ⟨t, ht, _, t2⟩ := in_ev (noRat_rt (M := 1)) (by omega) (by omega) b1 b2
  have i1 := in_sp (M := 9 * M) (Rt.of (by have := LQ_add p q; omega)) (by omega) (by omega) S1 (sum_in ha hb).1 (sum_in ha hb).2
  have i2 := in_sp (M := 9 * M) (Rt.of (by have := LQ_sub p q; omega)) (by omega) (by omega) S2 (diff_in ha hb).1 (diff_in ha hb).2
  have i3 := in_sp (M := 9 * M) (Rt.of (by have := LQ_mul p q; omega)) (by omega) (by omega) S3 (prod_in ha hb).1 (prod_in ha hb).2
  have c1 := hr.radd hs h0 (by omega)
  have c2 := hr.rsub hs h0 (by omega)
  have c3 := hr.rmul hs h0 (by omega)
  by_cases hz : Hs b 0
  · obtain ⟨A4, _⟩ := h.quot_zero hz
    rw [ht.2 hz] at t2
    exact Ev.fls rfl (Ev.bind A1 (Ev.bind A2 (Ev.bind A3 (Ev.bind A4 (Ev.fls d (Ev.fls d (Ev.fls d (Ev.bind c1 (Ev.bind i1 (Ev.fls rfl (Ev.bind c2 (Ev.bind i2 (Ev.fls rfl (Ev.bind c3 (Ev.bind i3 (Ev.fls rfl (Ev.bind t2 (Ev.tru rfl Ev.pure))))))))))))))))))
  · obtain ⟨s4, A4, _, S4⟩ := h.quot hz
    have htf : t = false := by
      cases t with
      | false => rfl
      | true => exact absurd (ht.1 rfl) hz
    rw [htf] at t2
    have i4 := in_sp (M := 9 * M) (Rt.of (by have := LQ_mul p q⁻¹; have := LQ_inv q; omega)) (by omega) (by omega) S4 (quot_in ha hb hz).1 (quot_in ha hb hz).2
    have c4 := hr.rdiv hs h0 (by omega) (inv_in hb hz).2.2
    exact Ev.fls rfl (Ev.bind A1 (Ev.bind A2 (Ev.bind A3 (Ev.bind A4 (Ev.fls d (Ev.fls d (Ev.fls d (Ev.bind c1 (Ev.bind i1 (Ev.fls rfl (Ev.bind c2 (Ev.bind i2 (Ev.fls rfl (Ev.bind c3 (Ev.bind i3 (Ev.fls rfl (Ev.bind t2 (Ev.fls rfl (Ev.bind c4 (Ev.tru (dec_t rfl) (Ev.bind i4 Ev.pure)))))))))))))))))))))
end

abbrev tyEnc : Ty := .st (.pair (.st (.pair .flt .flt)) (.pair (.st (.pair .flt .flt)) (.pair tyRat tyRat)))
theorem encloses_math (x : TD [tyEnc]) (hw : wfDs (encT [tyEnc] x)) (hm : massDs (encT [tyEnc] x) ≤ 1048576) : ∃ k, law04_ApproxEncloses.f k x = some true := by
  obtain ⟨hx, _⟩ := hw
  obtain ⟨h1, h2, h3, h4⟩ := hx
  have h1' : x.1.1 < 2 ^ 64 ∧ x.1.2 < 2 ^ 64 := h1
  have h2' : x.2.1.1 < 2 ^ 64 ∧ x.2.1.2 < 2 ^ 64 := h2
  have hm' : ((1 + 1) + ((1 + 1) + (tyRat.mass x.2.2.1 + tyRat.mass x.2.2.2))) + 0 ≤ 1048576 := hm
  exact (encloses_ev (rat_rt (r := x.2.2.1) h3 (M := 1048576) (by omega)) (rat_rt (r := x.2.2.2) h4 (M := 1048576) (by omega)) (by omega) (by omega) h1'.1 h1'.2 h2'.1 h2'.2).some

end Go.FK
