import Derived.Test.YtlojafmcaghpmaaGreatDoorM3

/- The plain law: the simplest number between two, and how it is found: the mathematics. -/
namespace Go.FK
/-! ### Rational numbers by their parts -/
theorem qfloor_eq (q : Rat) : qfloor q = q.floor := (Rat.floor_def q).symm
theorem qfloor_le (q : Rat) : (qfloor q : Rat) ≤ q := by rw [qfloor_eq]; exact Rat.floor_le q
theorem lt_qfloor (q : Rat) : q < (qfloor q : Rat) + 1 := by
  have h := Rat.lt_floor_add_one q
  rw [Rat.intCast_add] at h
  rw [qfloor_eq]; exact h
theorem le_qfloor {n : Int} {q : Rat} : n ≤ qfloor q ↔ (n : Rat) ≤ q := by rw [qfloor_eq]; exact Rat.le_floor_iff
theorem int_lt_rat {n : Int} {y : Rat} : (n : Rat) < y ↔ n * y.den < y.num := by rw [Rat.lt_iff]; simp
theorem rat_lt_int {n : Int} {y : Rat} : y < (n : Rat) ↔ y.num < n * y.den := by rw [Rat.lt_iff]; simp
theorem sub_int_parts (x : Rat) (n : Int) : (x - (n : Rat)).num = x.num - n * x.den ∧ (x - (n : Rat)).den = x.den := by
  have hc : (x.num - n * x.den).natAbs.Coprime x.den := by
    have h : Int.gcd (x.num - n * x.den) x.den = Int.gcd x.num x.den := Int.gcd_sub_mul_right_left _ _ _
    have h2 : Int.gcd x.num x.den = 1 := x.reduced
    rw [h2] at h
    exact h
  have e : x - (n : Rat) = ⟨x.num - n * x.den, x.den, x.den_nz, hc⟩ := by
    rw [Rat.mk_eq_mkRat, Rat.sub_def']
    simp
  rw [e]
  exact ⟨rfl, rfl⟩
theorem add_int_parts (x : Rat) (n : Int) : ((n : Rat) + x).num = n * x.den + x.num ∧ ((n : Rat) + x).den = x.den := by
  have h := sub_int_parts x (-n)
  have e : x - ((-n : Int) : Rat) = (n : Rat) + x := by
    rw [Rat.intCast_neg]; grind
  rw [e] at h
  refine ⟨?_, h.2⟩
  rw [h.1, Int.neg_mul]; omega
theorem num_pos {x : Rat} (h : 0 < x) : 0 < x.num := by
  have := (Rat.lt_iff 0 x).1 h
  simpa using this
theorem of_num_pos {x : Rat} (h : 0 < x.num) : 0 < x := (Rat.lt_iff 0 x).2 (by simpa using h)
theorem inv_parts {x : Rat} (h : 0 < x) : x⁻¹.num = x.den ∧ (x⁻¹.den : Int) = x.num := by
  have := num_pos h
  rw [Rat.num_inv, Rat.den_inv, if_neg (by omega), Int.sign_eq_one_of_pos this]
  omega
theorem inv_lt {a b : Rat} (ha : 0 < a) (hb : 0 < b) : a⁻¹ < b⁻¹ ↔ b < a := by
  have h1 := inv_parts ha
  have h2 := inv_parts hb
  rw [Rat.lt_iff, Rat.lt_iff, h1.1, h1.2, h2.1, h2.2, Int.mul_comm (a.den : Int), Int.mul_comm (b.den : Int)]
theorem inv_lt' {a b : Rat} (ha : 0 < a) (hb : 0 < b) : a⁻¹ < b ↔ b⁻¹ < a := by
  have := inv_lt (a := a) (b := b⁻¹) ha (Rat.inv_pos.2 hb)
  rwa [Rat.inv_inv] at this
theorem lt_inv' {a b : Rat} (ha : 0 < a) (hb : 0 < b) : a < b⁻¹ ↔ b < a⁻¹ := by
  have := inv_lt (a := a⁻¹) (b := b) (Rat.inv_pos.2 ha) hb
  rwa [Rat.inv_inv] at this

/-! ### The simplest number between two -/
/-- Above lo and below hi (where there is a hi). -/
def In (lo : Rat) (hi : Option Rat) (y : Rat) : Prop := lo < y ∧ ∀ h, hi = some h → y < h

/-- The simplest one (above a lo that is not below 0): least in both parts. -/
structure Simp (lo : Rat) (hi : Option Rat) (x : Rat) : Prop where
  mem : In lo hi x
  least : ∀ y, In lo hi y → x.den ≤ y.den ∧ x.num ≤ y.num

theorem simp_int {lo : Rat} {hi : Option Rat} (h0 : 0 ≤ lo) (h : ∀ h, hi = some h → (qfloor lo : Rat) + 1 < h) : Simp lo hi ((qfloor lo : Rat) + 1) := by
  have e : (qfloor lo : Rat) + 1 = ((qfloor lo + 1 : Int) : Rat) := by simp
  refine ⟨⟨lt_qfloor lo, h⟩, fun y hy => ?_⟩
  have hf : 0 ≤ qfloor lo := le_qfloor.2 (by simpa using h0)
  have h1 : (qfloor lo : Rat) < y := by have := qfloor_le lo; have := hy.1; grind
  have h2 := int_lt_rat.1 h1
  have h3 := y.den_pos
  rw [e, Rat.num_intCast, Rat.den_intCast]
  refine ⟨h3, ?_⟩
  have h4 : qfloor lo * 1 ≤ qfloor lo * y.den := Int.mul_le_mul_of_nonneg_left (by omega) hf
  omega

/-- The numbers above lo, less lo's whole part, turned round. -/
def nextLo (lo hi : Rat) : Rat := (hi - (qfloor lo : Rat))⁻¹
def nextHi (lo : Rat) : Option Rat := if lo - (qfloor lo : Rat) = 0 then none else some (lo - (qfloor lo : Rat))⁻¹

theorem in_next {lo hi y : Rat} (h : lo < y ∧ y < hi) : In (nextLo lo hi) (nextHi lo) (y - (qfloor lo : Rat))⁻¹ := by
  have hf := qfloor_le lo
  have hy : 0 < y - (qfloor lo : Rat) := by grind
  have hh : 0 < hi - (qfloor lo : Rat) := by grind
  refine ⟨(inv_lt hh hy).2 (by grind), fun t ht => ?_⟩
  unfold nextHi at ht
  split at ht
  · cases ht
  rename_i hne
  simp only [Option.some.injEq] at ht
  subst ht
  have hl : 0 < lo - (qfloor lo : Rat) := by grind
  exact (inv_lt hy hl).2 (by grind)

theorem of_next {lo hi z : Rat} (hlt : lo < hi) (h : In (nextLo lo hi) (nextHi lo) z) : 0 < z ∧ lo < (qfloor lo : Rat) + z⁻¹ ∧ (qfloor lo : Rat) + z⁻¹ < hi := by
  have hf := qfloor_le lo
  have hh : 0 < hi - (qfloor lo : Rat) := by grind
  have hz : 0 < z := by
    have h1 : 0 < nextLo lo hi := Rat.inv_pos.2 hh
    have := h.1
    grind
  have hzi : 0 < z⁻¹ := Rat.inv_pos.2 hz
  refine ⟨hz, ?_, ?_⟩
  · by_cases h0 : lo - (qfloor lo : Rat) = 0
    · grind
    · have hl : 0 < lo - (qfloor lo : Rat) := by grind
      have := h.2 (lo - (qfloor lo : Rat))⁻¹ (by unfold nextHi; rw [if_neg h0])
      have := (lt_inv' hz hl).1 this
      grind
  · have := (inv_lt' hh hz).1 h.1
    grind

theorem step_parts {n : Int} {z : Rat} (hz : 0 < z) : ((n : Rat) + z⁻¹).num = n * z.num + z.den ∧ (((n : Rat) + z⁻¹).den : Int) = z.num := by
  have h1 := add_int_parts z⁻¹ n
  have h2 := inv_parts hz
  rw [h1.1, h1.2, h2.1, h2.2]
  exact ⟨rfl, rfl⟩
theorem back_parts {n : Int} {y : Rat} (h : (n : Rat) < y) : (y - (n : Rat))⁻¹.num = y.den ∧ ((y - (n : Rat))⁻¹.den : Int) = y.num - n * y.den := by
  have h1 := sub_int_parts y n
  have h2 := inv_parts (x := y - (n : Rat)) (by grind)
  rw [h2.1, h2.2, h1.1, h1.2]
  exact ⟨rfl, rfl⟩

theorem simp_step {lo hi z : Rat} (h0 : 0 ≤ lo) (hlt : lo < hi) (h : Simp (nextLo lo hi) (nextHi lo) z) : Simp lo (some hi) ((qfloor lo : Rat) + z⁻¹) := by
  obtain ⟨hz, h1, h2⟩ := of_next hlt h.mem
  have hf : 0 ≤ qfloor lo := le_qfloor.2 (by simpa using h0)
  refine ⟨⟨h1, fun t ht => by cases ht; exact h2⟩, fun y hy => ?_⟩
  have hyh := hy.2 hi rfl
  have hfy : (qfloor lo : Rat) < y := by have := qfloor_le lo; have := hy.1; grind
  have hl := h.least _ (in_next ⟨hy.1, hyh⟩)
  have hb := back_parts hfy
  have hs := step_parts (n := qfloor lo) hz
  have hl2 : (z.den : Int) ≤ ((y - (qfloor lo : Rat))⁻¹.den : Int) := Int.ofNat_le.2 hl.1
  have hl3 := hl.2
  rw [hb.1] at hl3
  rw [hb.2] at hl2
  refine ⟨?_, ?_⟩
  · have : (((qfloor lo : Rat) + z⁻¹).den : Int) ≤ (y.den : Int) := by rw [hs.2]; exact hl3
    exact Int.ofNat_le.1 this
  · rw [hs.1]
    have h4 : qfloor lo * z.num ≤ qfloor lo * y.den := Int.mul_le_mul_of_nonneg_left hl3 hf
    omega

/-- The simplest number between any two: the least Den, then the least size. -/
structure Wmp (lo hi x : Rat) : Prop where
  above : lo < x
  below : x < hi
  least : ∀ y, lo < y → y < hi → x.den < y.den ∨ (x.den = y.den ∧ x.num.natAbs ≤ y.num.natAbs)

theorem Simp.wmp {lo hi x : Rat} (h0 : 0 ≤ lo) (h : Simp lo (some hi) x) : Wmp lo hi x := by
  refine ⟨h.mem.1, h.mem.2 hi rfl, fun y h1 h2 => ?_⟩
  have hl := h.least y ⟨h1, fun t ht => by cases ht; exact h2⟩
  have hx : 0 < x.num := num_pos (by have := h.mem.1; grind)
  have hy : 0 < y.num := num_pos (by grind)
  omega

theorem Wmp.zero {lo hi : Rat} (h1 : lo < 0) (h2 : 0 < hi) : Wmp lo hi 0 := by
  refine ⟨h1, h2, fun y _ _ => ?_⟩
  have := y.den_pos
  simp only [Rat.den_ofNat, Rat.num_ofNat]
  by_cases h : y.den = 1
  · right; simp; omega
  · left; omega

theorem Wmp.neg {lo hi x : Rat} (h : Wmp (-hi) (-lo) x) : Wmp lo hi (-x) := by
  refine ⟨by have := h.below; grind, by have := h.above; grind, fun y h1 h2 => ?_⟩
  have := h.least (-y) (by grind) (by grind)
  simpa using this

theorem Wmp.uniq {lo hi x y : Rat} (hx : Wmp lo hi x) (hy : Wmp lo hi y) : x = y := by
  have h1 := hx.least y hy.above hy.below
  have h2 := hy.least x hx.above hx.below
  have hd : x.den = y.den := by omega
  have hn : x.num.natAbs = y.num.natAbs := by omega
  by_cases h : x.num = y.num
  · exact Rat.ext h hd
  · exfalso
    have h3 : x.num = -y.num := by omega
    have key : ∀ a b : Rat, Wmp lo hi a → Wmp lo hi b → 0 < a.num → b.num < 0 → False := by
      intro a b ha hb h4 h5
      have ha' : 0 < a := of_num_pos h4
      have hb' : b < 0 := (Rat.lt_iff b 0).2 (by simpa using h5)
      have h6 := ha.least 0 (by have := hb.above; grind) (by have := ha.below; grind)
      simp only [Rat.den_ofNat, Rat.num_ofNat] at h6
      have := a.den_pos
      have : (0 : Int).natAbs = 0 := rfl
      omega
    rcases Int.lt_trichotomy x.num 0 with h4 | h4 | h4
    · exact key y x hy hx (by omega) h4
    · omega
    · exact key x y hx hy h4 (by omega)

theorem simp_wmp_neg {lo hi z : Rat} (h0 : lo < 0) (hlt : lo < hi) (hup : hi ≤ (qfloor lo : Rat) + 1) (h : Simp (nextLo lo hi) (nextHi lo) z) : Wmp lo hi ((qfloor lo : Rat) + z⁻¹) := by
  obtain ⟨hz, h1, h2⟩ := of_next hlt h.mem
  have hf : qfloor lo < 0 := by
    have h1 := qfloor_le lo
    have h2 : (qfloor lo : Rat) < ((0 : Int) : Rat) := by simp; grind
    exact Rat.intCast_lt_intCast.1 h2
  refine ⟨h1, h2, fun y hy1 hy2 => ?_⟩
  have hfy : (qfloor lo : Rat) < y := by have := qfloor_le lo; grind
  have hI := in_next ⟨hy1, hy2⟩
  have hl := h.least _ hI
  have hb := back_parts hfy
  have hs := step_parts (n := qfloor lo) hz
  have hy0 : 0 < (y - (qfloor lo : Rat))⁻¹ := Rat.inv_pos.2 (by grind)
  have hyn := num_pos hy0
  have hzn := num_pos hz
  have hge : 1 < (y - (qfloor lo : Rat))⁻¹ := by
    have hh : 0 < hi - (qfloor lo : Rat) := by have := qfloor_le lo; grind
    have := (inv_lt (a := 1) (b := y - (qfloor lo : Rat)) (by decide) (by grind)).2 (by grind)
    have e : (1 : Rat)⁻¹ = 1 := by decide +kernel
    rw [e] at this
    exact this
  have hge2 : ((y - (qfloor lo : Rat))⁻¹.den : Int) < (y - (qfloor lo : Rat))⁻¹.num := by
    have := (int_lt_rat (n := 1) (y := (y - (qfloor lo : Rat))⁻¹)).1 (by simpa using hge)
    omega
  have hlast : ∀ w : Rat, In (nextLo lo hi) (nextHi lo) w → z.num ≤ w.num := fun w hw => (h.least w hw).2
  by_cases hd : z.num = (y - (qfloor lo : Rat))⁻¹.num
  · -- the same Den: the same number
    have hden : z.den = (y - (qfloor lo : Rat))⁻¹.den := by
      rcases Nat.lt_or_ge z.den (y - (qfloor lo : Rat))⁻¹.den with hlt2 | hge3
      · exfalso
        have hw1 : (y - (qfloor lo : Rat))⁻¹ ≤ mkRat (z.num - 1) z.den := by
          have e : mkRat (z.num - 1) z.den = Rat.divInt (z.num - 1) (z.den : Int) := (Rat.divInt_ofNat _ _).symm
          rw [Rat.le_iff_sub_nonneg, e]
          rw [show (y - (qfloor lo : Rat))⁻¹ = Rat.divInt (y - (qfloor lo : Rat))⁻¹.num ((y - (qfloor lo : Rat))⁻¹.den : Int) from (Rat.num_divInt_den _).symm]
          have hd1 := z.den_pos
          have hd2 := (y - (qfloor lo : Rat))⁻¹.den_pos
          rw [Rat.divInt_sub_divInt _ _ (by omega) (by omega)]
          refine Rat.divInt_nonneg ?_ (Int.mul_nonneg (by omega) (by omega))
          rw [hd]
          rw [hd] at hzn
          generalize (y - (qfloor lo : Rat))⁻¹.num = a at *
          generalize (y - (qfloor lo : Rat))⁻¹.den = b' at *
          generalize z.den = b at *
          have h5 : (a - 1) * ((b : Int) + 1) ≤ (a - 1) * b' := Int.mul_le_mul_of_nonneg_left (by omega) (by omega)
          have h6 : (a - 1) * ((b : Int) + 1) = a * b + a - b - 1 := by rw [Int.sub_mul, Int.mul_add]; omega
          omega
        have hw2 : mkRat (z.num - 1) z.den < z := by
          have hd1 := z.den_pos
          have e : z = mkRat z.num z.den := (Rat.mkRat_self z).symm
          have e2 : mkRat (z.num - 1) z.den = z - mkRat 1 z.den := by
            conv => rhs; lhs; rw [e]
            rw [← Rat.divInt_ofNat, ← Rat.divInt_ofNat, ← Rat.divInt_ofNat, Rat.divInt_sub_divInt _ _ (by omega) (by omega), ← Int.sub_mul]
            rw [Rat.divInt_mul_right (by omega)]
          have hp : 0 < mkRat 1 z.den := by
            have h7 : 0 ≤ mkRat 1 z.den := by rw [← Rat.divInt_ofNat]; exact Rat.divInt_nonneg (by omega) (by omega)
            have h8 : mkRat 1 z.den ≠ 0 := (Rat.mkRat_ne_zero (by omega)).2 (by omega)
            grind
          rw [e2]; grind
        have hw3 : (mkRat (z.num - 1) z.den).num ≤ z.num - 1 := by
          rw [Rat.num_mkRat, if_neg (by have := z.den_pos; omega)]
          exact Int.ediv_le_self _ (by omega)
        have := hlast (mkRat (z.num - 1) z.den) ⟨by have := hI.1; grind, fun t ht => by have := h.mem.2 t ht; grind⟩
        omega
      · exact Nat.le_antisymm hl.1 hge3
    have he : z = (y - (qfloor lo : Rat))⁻¹ := Rat.ext hd hden
    have : (qfloor lo : Rat) + z⁻¹ = y := by rw [he, Rat.inv_inv]; grind
    rw [this]
    right; exact ⟨rfl, Nat.le_refl _⟩
  · left
    have h4 := hl.2
    have : (((qfloor lo : Rat) + z⁻¹).den : Int) < (y.den : Int) := by
      rw [hs.2]
      rw [hb.1] at h4 hd
      omega
    exact Int.ofNat_lt.1 this
/-! ### How the search goes -/
/-- The whole numbers that are met on the way down. -/
inductive Bt : Rat → Option Rat → List Int → Prop where
  | done (lo : Rat) (hi : Option Rat) (h : ∀ h, hi = some h → (qfloor lo : Rat) + 1 < h) : Bt lo hi [qfloor lo + 1]
  | step (lo hi : Rat) (t : List Int) (h1 : lo < hi) (h2 : hi ≤ (qfloor lo : Rat) + 1) (h3 : Bt (nextLo lo hi) (nextHi lo) t) : Bt lo (some hi) (qfloor lo :: t)

theorem qfloor_nonneg {q : Rat} (h : 0 ≤ q) : 0 ≤ qfloor q := le_qfloor.2 (by simpa using h)
theorem nextLo_parts {lo hi : Rat} (h : lo < hi) : (nextLo lo hi).num = hi.den ∧ ((nextLo lo hi).den : Int) = hi.num - qfloor lo * hi.den := back_parts (by have := qfloor_le lo; grind)
theorem nextLo_ge {lo hi : Rat} (h : lo < hi) (h2 : hi ≤ (qfloor lo : Rat) + 1) : ((nextLo lo hi).den : Int) ≤ hi.den ∧ 1 ≤ nextLo lo hi := by
  have h1 := nextLo_parts h
  have e : (qfloor lo : Rat) + 1 = ((qfloor lo + 1 : Int) : Rat) := by simp
  have h3 : ((nextLo lo hi).den : Int) ≤ hi.den := by
    rw [e, Rat.le_iff] at h2
    simp only [Rat.num_intCast, Rat.den_intCast, Int.natCast_one, Int.mul_one, Int.add_mul, Int.one_mul] at h2
    rw [h1.2]
    omega
  refine ⟨h3, (Rat.le_iff 1 _).2 ?_⟩
  simp only [Rat.num_ofNat, Rat.den_ofNat]
  rw [h1.1]
  omega
theorem nextHi_parts {lo h : Rat} (hh : nextHi lo = some h) : h.num = lo.den ∧ (h.den : Int) = lo.num - qfloor lo * lo.den ∧ h.den < lo.den := by
  unfold nextHi at hh
  split at hh
  · cases hh
  rename_i hne
  simp only [Option.some.injEq] at hh
  subst hh
  have hp := back_parts (n := qfloor lo) (y := lo) (by have := qfloor_le lo; grind)
  refine ⟨hp.1, hp.2, ?_⟩
  have h1 := lt_qfloor lo
  have e : (qfloor lo : Rat) + 1 = ((qfloor lo + 1 : Int) : Rat) := by simp
  rw [e, rat_lt_int, Int.add_mul] at h1
  have := hp.2
  omega
theorem next_lt {lo hi : Rat} (h : lo < hi) : ∀ t, nextHi lo = some t → nextLo lo hi < t := by
  intro t ht
  unfold nextHi at ht
  split at ht
  · cases ht
  rename_i hne
  simp only [Option.some.injEq] at ht
  subst ht
  have := qfloor_le lo
  exact (inv_lt (by grind) (by grind)).2 (by grind)

def dn : Option Rat → Nat
  | none => 0
  | some h => h.den

theorem Bt.exists : ∀ (m : Nat) (lo : Rat) (hi : Option Rat), lo.den + dn hi ≤ m → (∀ h, hi = some h → lo < h) → ∃ t, Bt lo hi t := by
  intro m
  induction m with
  | zero => intro lo hi hm; have := lo.den_pos; omega
  | succ m ih =>
    intro lo hi hm hlt
    by_cases h : ∀ h, hi = some h → (qfloor lo : Rat) + 1 < h
    · exact ⟨_, .done lo hi h⟩
    · match hi with
      | none => exact absurd (fun h hh => by cases hh) h
      | some hi =>
        have hl := hlt hi rfl
        have h2 : hi ≤ (qfloor lo : Rat) + 1 := Rat.not_lt.1 fun h3 => h fun t ht => by cases ht; exact h3
        have g1 := (nextLo_ge hl h2).1
        obtain ⟨t, ht⟩ := ih (nextLo lo hi) (nextHi lo) (by
          simp only [dn] at hm
          cases hn : nextHi lo with
          | none => have := lo.den_pos; simp only [dn]; omega
          | some t => have := (nextHi_parts hn).2.2; simp only [dn]; omega) (next_lt hl)
        exact ⟨_, .step lo hi t hl h2 ht⟩

theorem Bt.ne {lo : Rat} {hi : Option Rat} {t : List Int} (h : Bt lo hi t) : t ≠ [] := by cases h <;> simp
theorem fold_cons (x : Int) {t : List Int} (h : t ≠ []) : fold (x :: t) = (x : Rat) + (fold t)⁻¹ := by
  cases t with
  | nil => exact absurd rfl h
  | cons y ys => rfl

theorem Bt.pos {lo : Rat} {hi : Option Rat} {t : List Int} (h : Bt lo hi t) : (0 ≤ lo → ∀ x ∈ t.drop 1, 0 < x) ∧ (1 ≤ lo → ∀ x ∈ t, 0 < x) := by
  induction h with
  | done lo hi h =>
    refine ⟨fun _ x hx => by simp at hx, fun h0 x hx => ?_⟩
    simp only [List.mem_singleton] at hx
    have := qfloor_nonneg (q := lo) (by grind)
    omega
  | step lo hi t h1 h2 h3 ih =>
    have hg := (nextLo_ge h1 h2).2
    have hp := ih.2 hg
    refine ⟨fun _ x hx => hp x (by simpa using hx), fun h0 x hx => ?_⟩
    rcases List.mem_cons.1 hx with hx | hx
    · have := le_qfloor (n := 1) (q := lo) |>.2 (by simpa using h0)
      omega
    · exact hp x hx

theorem Bt.simp {lo : Rat} {hi : Option Rat} {t : List Int} (h : Bt lo hi t) : 0 ≤ lo → Simp lo hi (fold t) := by
  induction h with
  | done lo hi h =>
    intro h0
    have e : fold [qfloor lo + 1] = (qfloor lo : Rat) + 1 := by
      show ((qfloor lo + 1 : Int) : Rat) = _
      simp
    rw [e]
    exact simp_int h0 h
  | step lo hi t h1 h2 h3 ih =>
    intro h0
    rw [fold_cons _ h3.ne]
    have hg := (nextLo_ge h1 h2).2
    exact simp_step h0 h1 (ih (by grind))

/-! ### Sizes -/
structure Bd (D : Nat) (q : Rat) : Prop where
  num : LZ q.num ≤ D
  den : L q.den ≤ D
theorem Bd.LQ {D : Nat} {q : Rat} (h : Bd D q) : LQ q ≤ 2 * D := by have := h.num; have := h.den; unfold FK.LQ; omega
theorem Bd.of {D : Nat} {q : Rat} (h : FK.LQ q ≤ D) : Bd D q := ⟨Nat.le_trans (LQ_num q) h, Nat.le_trans (LQ_den q) h⟩
theorem Bd.nextLo {D : Nat} {lo hi : Rat} (h : Bd D hi) (h1 : lo < hi) (h2 : hi ≤ (qfloor lo : Rat) + 1) : Bd D (nextLo lo hi) := by
  have hp := (nextLo_parts h1).1
  have hg := (nextLo_ge h1 h2).1
  have hd := h.den
  constructor
  · rw [hp, LZ_nat]; exact hd
  · exact Nat.le_trans (L_mono (by omega)) hd
theorem Bd.nextHi {D : Nat} {lo t : Rat} (h : Bd D lo) (ht : nextHi lo = some t) : Bd D t := by
  have hp := nextHi_parts ht
  have hd := h.den
  constructor
  · rw [hp.1, LZ_nat]; exact hd
  · exact Nat.le_trans (L_mono (by omega)) hd

theorem Simp.size {D : Nat} {lo x : Rat} {hi : Option Rat} (h0 : 0 ≤ lo) (hl : ∀ h, hi = some h → lo < h) (h : Simp lo hi x) (h1 : Bd D lo) (h2 : ∀ h, hi = some h → Bd D h) : FK.LQ x ≤ 8 * D + 4 := by
  have key : ∀ y, In lo hi y → FK.LQ x ≤ FK.LQ y := by
    intro y hy
    have hx : 0 < x.num := num_pos (by have := h.mem.1; grind)
    have hl := h.least y hy
    have a1 : LZ x.num ≤ LZ y.num := L_mono (by omega)
    have a2 : L x.den ≤ L y.den := L_mono hl.1
    unfold FK.LQ
    omega
  cases hi with
  | none =>
    refine Nat.le_trans (key ((qfloor lo + 1 : Int) : Rat) ⟨?_, fun t ht => by cases ht⟩) ?_
    · have := lt_qfloor lo
      rw [Rat.intCast_add]
      exact this
    · unfold FK.LQ
      rw [Rat.num_intCast, Rat.den_intCast, L_one]
      have a1 := LZ_add (qfloor lo) 1
      have a2 := LZ_qfloor lo
      have a3 := h1.LQ
      have a4 : LZ 1 = 1 := L_one
      omega
  | some hi =>
    have hlt := hl hi rfl
    refine Nat.le_trans (key ((lo + hi) * mkRat 1 2) ?_) ?_
    · have e : mkRat 1 2 = (1 : Rat) / 2 := by decide +kernel
      rw [e]
      refine ⟨?_, fun t ht => ?_⟩
      · grind
      · cases ht; grind
    · have a1 := LQ_mul (lo + hi) (mkRat 1 2)
      have a2 := LQ_add lo hi
      have a3 := h1.LQ
      have a4 := (h2 hi rfl).LQ
      have a5 : FK.LQ (mkRat 1 2) ≤ 2 := by
        have e1 : (mkRat 1 2).num = 1 := by decide +kernel
        have e2 : (mkRat 1 2).den = 2 := by decide +kernel
        unfold FK.LQ
        rw [e1, e2]
        have : L 2 ≤ 1 := L_small (by omega)
        have : LZ 1 = 1 := L_one
        omega
      omega

theorem Bt.size {D : Nat} {lo : Rat} {hi : Option Rat} {t : List Int} (h : Bt lo hi t) : 0 ≤ lo → Bd D lo → (∀ h, hi = some h → lo < h ∧ Bd D h) → (∀ i, i < t.length → FK.LQ (fold (t.drop i)) ≤ 8 * D + 4) ∧ ∀ x ∈ t, LZ x ≤ 2 * D + 3 := by
  induction h with
  | done lo hi h =>
    intro h0 h1 h2
    refine ⟨fun i hi' => ?_, fun x hx => ?_⟩
    · simp only [List.length_singleton] at hi'
      rw [show i = 0 by omega, List.drop_zero]
      exact (Bt.done lo hi h).simp h0 |>.size h0 (fun t ht => (h2 t ht).1) h1 (fun t ht => (h2 t ht).2)
    · simp only [List.mem_singleton] at hx
      subst hx
      have a1 := LZ_add (qfloor lo) 1
      have a2 := LZ_qfloor lo
      have a3 := h1.LQ
      have a4 : LZ 1 = 1 := L_one
      omega
  | step lo hi t h1 h2 h3 ih =>
    intro h0 h4 h5
    have hg := (nextLo_ge h1 h2).2
    obtain ⟨i1, i2⟩ := ih (by grind) ((h5 hi rfl).2.nextLo h1 h2) (fun t ht => ⟨next_lt h1 t ht, h4.nextHi ht⟩)
    refine ⟨fun i hi' => ?_, fun x hx => ?_⟩
    · cases i with
      | zero => exact (Bt.step lo hi t h1 h2 h3).simp h0 |>.size h0 (fun t ht => (h5 t ht).1) h4 (fun t ht => (h5 t ht).2)
      | succ i => exact i1 i (by simpa using hi')
    · rcases List.mem_cons.1 hx with hx | hx
      · subst hx
        have a2 := LZ_qfloor lo
        have a3 := h4.LQ
        omega
      · exact i2 x hx

/-- A continued fraction's length. -/
theorem fold_parts (x : Int) {t : List Int} (h : t ≠ []) (hp : ∀ y ∈ t, 0 < y) : (fold (x :: t)).num = x * (fold t).num + (fold t).den ∧ ((fold (x :: t)).den : Int) = (fold t).num := by
  have h1 := fold_ge_one t h hp
  rw [fold_cons x h]
  exact step_parts (by grind)
theorem fold_pos_num {t : List Int} (h : t ≠ []) (hp : ∀ y ∈ t, 0 < y) : 1 ≤ (fold t).num := by
  have h1 := fold_ge_one t h hp
  have : 0 < fold t := by grind
  exact num_pos this
theorem fold_len : ∀ (m : Nat) (t : List Int), t.length ≤ m → t ≠ [] → (∀ y ∈ t, 0 < y) → (2 : Int) ^ (t.length / 2) ≤ (fold t).num := by
  intro m
  induction m with
  | zero => intro t h h0; exact absurd (List.eq_nil_of_length_eq_zero (by omega)) h0
  | succ m ih =>
    intro t hm h0 hp
    match t, h0 with
    | [x], _ =>
      have : 0 < x := hp x (by simp)
      show (2 : Int) ^ (1 / 2) ≤ x
      have : (2 : Int) ^ (1 / 2) = 1 := by decide
      omega
    | [x, y], _ =>
      have h1 := fold_parts x (t := [y]) (by simp) (fun z hz => hp z (by simp at hz; simp [hz]))
      have h2 := fold_pos_num (t := [y]) (by simp) (fun z hz => hp z (by simp at hz; simp [hz]))
      have h3 := (fold [y]).den_pos
      have hx : 0 < x := hp x (by simp)
      have : (2 : Int) ^ ([x, y].length / 2) = 2 := by show (2 : Int) ^ (2 / 2) = 2; decide
      rw [this, h1.1]
      have : 1 * (fold [y]).num ≤ x * (fold [y]).num := Int.mul_le_mul_of_nonneg_right (by omega) (by omega)
      omega
    | x :: y :: z :: zs, _ =>
      have hp1 : ∀ w ∈ y :: z :: zs, 0 < w := fun w hw => hp w (List.mem_cons_of_mem _ hw)
      have hp2 : ∀ w ∈ z :: zs, 0 < w := fun w hw => hp1 w (List.mem_cons_of_mem _ hw)
      have h1 := fold_parts x (t := y :: z :: zs) (by simp) hp1
      have h2 := fold_parts y (t := z :: zs) (by simp) hp2
      have h3 := ih (z :: zs) (by simp only [List.length_cons] at hm ⊢; omega) (by simp) hp2
      have hx : 0 < x := hp x (by simp)
      have hy : 0 < y := hp1 y (by simp)
      have h4 := fold_pos_num (t := y :: z :: zs) (by simp) hp1
      have h5 := fold_pos_num (t := z :: zs) (by simp) hp2
      have e : (x :: y :: z :: zs).length / 2 = (z :: zs).length / 2 + 1 := by simp only [List.length_cons]; omega
      rw [e, Int.pow_succ, h1.1]
      have b1 : 1 * (fold (y :: z :: zs)).num ≤ x * (fold (y :: z :: zs)).num := Int.mul_le_mul_of_nonneg_right (by omega) (by omega)
      have b2 : 1 * (fold (z :: zs)).num ≤ y * (fold (z :: zs)).num := Int.mul_le_mul_of_nonneg_right (by omega) (by omega)
      have := (fold (z :: zs)).den_pos
      omega
theorem fold_short {K : Nat} {t : List Int} (h : t ≠ []) (hp : ∀ y ∈ t, 0 < y) (hK : LZ (fold t).num ≤ K) : t.length ≤ 64 * K + 1 := by
  have h1 := fold_len t.length t (Nat.le_refl _) h hp
  have h2 := fold_pos_num h hp
  have h3 := L_lt (fold t).num.natAbs
  have h4 : 4294967296 ^ L (fold t).num.natAbs ≤ 4294967296 ^ K := Nat.pow_le_pow_right (by omega) hK
  have h5 : (2 : Nat) ^ (t.length / 2) < 2 ^ (32 * K) := by
    rw [Nat.pow_mul]
    have e : (2 : Nat) ^ 32 = 4294967296 := by decide
    rw [e]
    have : ((2 ^ (t.length / 2) : Nat) : Int) ≤ ((fold t).num.natAbs : Int) := by
      rw [Int.natCast_pow]
      have : ((fold t).num.natAbs : Int) = (fold t).num := by omega
      rw [this]; exact h1
    omega
  have := (Nat.pow_lt_pow_iff_right (a := 2) (by omega)).1 h5
  omega

end Go.FK


/- The plain law: Fold of a list whose fractions are known to be small. -/
namespace Go.FK

variable {K : Nat} {l : List (Bool × List Int)}

theorem foldg_p4 (hl : Ls K l) (hK : K ≤ 68719476736) (hlen : l.length ≤ 4611686018427387904) (hb : ∀ i, i < l.length → LQ (fold ((zs l).drop i)) ≤ K) (hpos : ∀ x ∈ (zs l).drop 1, 0 < x) (w : RR) : ∀ (i : Nat), i < l.length →
    Ev (fun k => ratio_Fold.p4 k w (rat (fold ((zs l).drop i))) l ((i : Int) - 1)) (rat (fold (zs l)), (0 : Int)) := by
  have hzl : (zs l).length = l.length := by simp [zs]
  intro i
  induction i with
  | zero =>
    intro _
    rw [List.drop_zero]
    refine Ev.turn (fun k => ratio_Fold.p4_succ k _ _ _ _) ?_
    unfold ratio_Fold.e4
    exact Ev.fls (by simp) Ev.pure
  | succ i ih =>
    intro hi
    have ih1 := ih (by omega)
    have e0 : ((i + 1 : Nat) : Int) - 1 = (i : Int) := by omega
    have e1 : IntKind.i64.wrap ((i : Int) - 1) = (i : Int) - 1 := wrap_i64 (by omega) (by omega)
    have hd : (zs l).drop i = nthD 0 (zs l) i :: nthD 0 (zs l) (i + 1) :: (zs l).drop (i + 2) := by
      rw [drop_cons (by omega), drop_cons (by omega)]
    have hd1 : (zs l).drop (i + 1) = nthD 0 (zs l) (i + 1) :: (zs l).drop (i + 2) := drop_cons (by omega)
    have hf : fold ((zs l).drop i) = ((nthD 0 (zs l) i : Int) : Rat) + (fold ((zs l).drop (i + 1)))⁻¹ := by rw [hd, hd1]; rfl
    have hp1 : ∀ x ∈ (zs l).drop (i + 1), 0 < x := fun x hx => hpos x (by
      rw [show (zs l).drop (i + 1) = ((zs l).drop 1).drop i by rw [List.drop_drop, Nat.add_comm]] at hx
      exact List.mem_of_mem_drop hx)
    have hge := fold_ge_one ((zs l).drop (i + 1)) (by rw [hd1]; simp) hp1
    have hsz := hb (i + 1) hi
    have hne : fold ((zs l).drop (i + 1)) ≠ 0 := by
      intro h
      rw [h] at hge
      exact absurd hge (by decide)
    rw [hf] at ih1
    generalize fold ((zs l).drop (i + 1)) = q at *
    have hq : Rt (K + 1) (rat q) q := Rt.of (by omega)
    have hqi : Rt (K + 1) (rat q⁻¹) q⁻¹ := Rt.of (by have := LQ_inv q; omega)
    have hx := hl.get i
    have hxr : Rt (K + 1) (rat ((nthD 0 (zs l) i : Int) : Rat)) ((nthD 0 (zs l) i : Int) : Rat) := Rt.of (by
      unfold LQ
      rw [Rat.num_intCast, Rat.den_intCast, L_one]
      have := hx.LZ; omega)
    refine Ev.turn (fun k => ratio_Fold.p4_succ k _ _ _ _) ?_
    unfold ratio_Fold.e4
    simp only [e0, e1, Int.toNat_natCast]
    refine Ev.tru (by simp) (Ev.bind (hq.inv (by omega) (by omega) hne) (Ev.tru (by simp; omega) (Ev.bind (hx.rof (by omega)) (Ev.bind (hxr.add hqi (by omega) (by omega)) ?_))))
    exact ih1

theorem foldg_p0 (hl : Ls K l) (hK : K ≤ 68719476736) (hlen : l.length ≤ 4611686018427387904) (hb : ∀ i, i < l.length → LQ (fold ((zs l).drop i)) ≤ K) (hpos : ∀ x ∈ (zs l).drop 1, 0 < x) (h0 : 0 < l.length) (w : RR) : ∀ (m i : Nat), m + i = l.length - 1 →
    Ev (fun k => ratio_Fold.p0 k w l (l.drop 1) ((l.length - 1 : Nat) : Int) (i : Int)) (rat (fold (zs l)), (0 : Int)) := by
  have hzl : (zs l).length = l.length := by simp [zs]
  intro m
  induction m with
  | zero =>
    intro i hi
    refine Ev.turn (fun k => ratio_Fold.p0_succ k _ _ _ _ _) ?_
    unfold ratio_Fold.e0
    have e1 : IntKind.i64.wrap ((l.length : Int) - 1) = ((l.length - 1 : Nat) : Int) := by rw [wrap_i64 (by omega) (by omega)]; omega
    have e2 : IntKind.i64.wrap ((l.length : Int) - 2) = ((l.length - 1 : Nat) : Int) - 1 := by rw [wrap_i64 (by omega) (by omega)]; omega
    simp only [e1, e2, Int.toNat_natCast]
    refine Ev.fls (dec_f (by omega)) (Ev.tru (by simp; omega) (Ev.bind ((hl.get (l.length - 1)).rof (by omega)) ?_))
    have := foldg_p4 hl hK hlen hb hpos w (l.length - 1) (by omega)
    rw [fold_end l h0] at this
    exact this
  | succ m ih =>
    intro i hi
    refine Ev.turn (fun k => ratio_Fold.p0_succ k _ _ _ _ _) ?_
    unfold ratio_Fold.e0
    have e1 : IntKind.i64.wrap ((i : Int) + 1) = ((i + 1 : Nat) : Int) := by rw [wrap_i64 (by omega) (by omega)]; omega
    have hx := hl.get (1 + i)
    have hp := get_of_pos hpos (i := 1 + i) (by omega) (by omega)
    have e3 : nthD (false, ([] : List Int)) (l.drop 1) i = nthD z0 l (1 + i) := nthD_drop' _ _ _ _
    simp only [e1, Int.toNat_natCast, e3]
    refine Ev.tru (dec_t (by omega)) (Ev.tru (by simp; omega) (Ev.bind (hx.sign (by omega)) ?_))
    exact Ev.fls (dec_f (by rw [sign_lt_one]; omega)) (ih (i + 1) (by omega))

theorem foldg_ev (hl : Ls K l) (hK : K ≤ 68719476736) (hlen : l.length ≤ 4611686018427387904) (hb : ∀ i, i < l.length → LQ (fold ((zs l).drop i)) ≤ K) (hpos : ∀ x ∈ (zs l).drop 1, 0 < x) (h0 : 0 < l.length) : Ev (fun k => ratio_Fold.f k l) (rat (fold (zs l)), (0 : Int)) := by
  unfold ratio_Fold.f ratio_Fold.e
  have e1 : List.drop (Int.toNat 1) (List.take (Int.toNat (l.length : Int)) l) = l.drop 1 := by rw [Int.toNat_natCast, List.take_length]; rfl
  have e2 : ((l.drop 1).length : Int) = ((l.length - 1 : Nat) : Int) := by simp
  simp only [e1, e2]
  refine Ev.fls (dec_f (by omega)) (Ev.tru (by simp; omega) ?_)
  exact foldg_p0 hl hK hlen hb hpos h0 _ (l.length - 1) 0 (by omega)

end Go.FK


/- The plain law: FloorLeast; the search for the simplest number, the program's and the reference's. -/
namespace Go.FK

variable {M : Nat} {r s : RR} {p q : Rat}

theorem qs_le {p q : Rat} (h : p ≤ q) : qs p q ≤ 0 := by
  rcases Rat.le_iff_lt_or_eq.1 h with h | h
  · rw [qs_lt h]; omega
  · rw [qs_eq h]; omega
theorem qs_ge {p q : Rat} (h : ¬ p < q) : ¬ qs p q < 0 := fun h2 => h (qs_neg.1 h2)
theorem LZ_one : LZ 1 = 1 := L_one
theorem LQ_one : LQ ((1 : Int) : Rat) = 2 := by rw [LQ_int, LZ_one]

theorem floorLeast_ev (h : Rt M r q) (h1 : 1 ≤ M) (hM : M ≤ 100000000) : Ev (fun k => law03_RatioFloorLeast.f k r) true := by
  unfold law03_RatioFloorLeast.f law03_RatioFloorLeast.e
  have t := h.twin (by omega)
  have l := h.LQ h1
  have lf := LZ_qfloor q
  have lg := LZ_qfloor (-q)
  rw [LQ_neg] at lg
  have hz : Zt (4 * M) (int (qfloor q)) (qfloor q) := Zt.of (by omega)
  have hzn : Zt (4 * M) (int (qfloor (-q))) (qfloor (-q)) := Zt.of (by omega)
  have hf : Rt (4 * M) (rat (qfloor q : Rat)) (qfloor q : Rat) := Rt.of (by rw [LQ_int]; omega)
  have h' := h.mono (M' := 4 * M) (by omega)
  have hn : Rt (2 * M) (rat (-q)) (-q) := Rt.of (by rw [LQ_neg]; exact l)
  have ls := LQ_sub q (qfloor q : Rat)
  rw [LQ_int] at ls
  have hd : Rt (20 * M) (rat (q - (qfloor q : Rat))) (q - (qfloor q : Rat)) := Rt.of (by omega)
  have ho : Rt (20 * M) (rat ((1 : Int) : Rat)) ((1 : Int) : Rat) := Rt.of (by rw [LQ_one]; omega)
  have b1 := qfloor_le q
  have b2 := lt_qfloor q
  refine Ev.bind t (Ev.bind (h.floor h1 (by omega)) (Ev.bind (hz.rint (by omega) (by omega)) (Ev.bind t (Ev.bind (h.ceil h1 (by omega)) (Ev.bind half_ev (Ev.tru rfl ?_))))))
  refine Ev.bind (hf.rcmp h' (by omega) (by omega)) (Ev.tru (dec_t (qs_le b1)) ?_)
  refine Ev.bind (h'.rsub hf (by omega) (by omega)) (Ev.bind (ref03_Whole_ev (n := 1) (by omega)) (Ev.bind (hd.rcmp ho (by omega) (by omega)) (Ev.tru (dec_t (qs_neg.2 ?_)) ?_)))
  · rw [Rat.intCast_one]; grind
  exact Ev.bind t (Ev.bind (h.neg h1 (by omega)) (Ev.bind (hn.floor (by omega) (by omega)) (Ev.bind (hzn.rneg (by omega)) (Ev.bind (sameInt_ev (by rw [LZ_neg]; omega)) Ev.pure))))

/-! ### The program's search -/
theorem Bd.rt {D M : Nat} {q : Rat} (h : Bd D q) (hM : 2 * D ≤ M) : Rt M (rat q) q := Rt.of (Nat.le_trans h.LQ hM)
theorem zs_int : ∀ t : List Int, zs (t.map int) = t
  | [] => rfl
  | x :: xs => by
    have := zs_int xs
    unfold zs at this ⊢
    rw [List.map_cons, List.map_cons, this, (Zt.of (Nat.le_refl (LZ x))).val]

theorem between_p13 {l : List (Bool × List Int)} {z : Bool × List Int} {R : RR} (w : RR) (hl : l.length < 4398046511104) (h : Ev (fun k => ratio_Fold.f k (l ++ [z])) (R, (0 : Int))) : Ev (fun k => ratio_between.p13 k w l z) R := by
  refine Ev.turn (fun k => ratio_between.p13_succ k _ _ _) ?_
  unfold ratio_between.e13
  refine Ev.tru ?_ (Ev.bind h Ev.pure)
  simp only [Bool.and_eq_true, Nat.ble_eq, List.length_singleton]
  omega

theorem between_p0 {D : Nat} (hD : D ≤ 1000000000) {lo : Rat} {hi : Option Rat} {t : List Int} (hb : Bt lo hi t) : 0 ≤ lo → Bd D lo → (∀ h, hi = some h → lo < h ∧ Bd D h) → ∀ (l : List (Bool × List Int)) (R w rh : RR) (op : Bool),
    l.length + t.length ≤ 4398046511104 → Ev (fun k => ratio_Fold.f k (l ++ t.map int)) (R, (0 : Int)) → (∀ h, hi = some h → op = false ∧ rh = rat h) → (hi = none → op = true) → Ev (fun k => ratio_between.p0 k (rat lo) rh w l op) R := by
  induction hb with
  | done lo hi h =>
    intro h0 h1 h2 l R w rh op hl hF hop hop2
    have hr := h1.rt (M := 2 * D + 2) (by omega)
    have lz := LZ_qfloor lo
    have lq := h1.LQ
    have a1 := LZ_add (qfloor lo) 1
    rw [LZ_one] at a1
    have hz : Zt (2 * D + 2) (int (qfloor lo)) (qfloor lo) := Zt.of (by omega)
    have hz1 : Zt (2 * D + 5) (int (qfloor lo + 1)) (qfloor lo + 1) := Zt.of (by omega)
    refine Ev.turn (fun k => ratio_between.p0_succ k _ _ _ _ _) ?_
    unfold ratio_between.e0
    refine Ev.bind (hr.floor (by omega) (by omega)) (Ev.bind (whole_Of_ev (n := 1) (by omega)) (Ev.bind (hz.add (one_zt (by omega)) (by omega)) ?_))
    have last := between_p13 w (l := l) (z := int (qfloor lo + 1)) (by simp at hl; omega) hF
    cases hi with
    | none =>
      rw [hop2 rfl]
      exact Ev.tru rfl last
    | some hi =>
      obtain ⟨e1, e2⟩ := hop hi rfl
      subst e1 e2
      have hrh := (h2 hi rfl).2.rt (M := 2 * D + 6) (by omega)
      have hn : Rt (2 * D + 6) (rat ((qfloor lo + 1 : Int) : Rat)) ((qfloor lo + 1 : Int) : Rat) := Rt.of (by rw [LQ_int]; omega)
      refine Ev.fls rfl (Ev.bind (hz1.rof (by omega)) (Ev.bind (hn.cmp hrh (by omega) (by omega)) (Ev.tru (dec_t (qs_neg.2 ?_)) last)))
      have := h hi rfl
      rw [Rat.intCast_add]
      exact this
  | step lo hi t h1 h2 h3 ih =>
    intro h0 h4 h5 l R w rh op hl hF hop hop2
    obtain ⟨e1, e2⟩ := hop hi rfl
    subst e1 e2
    have h5' := (h5 hi rfl).2
    have hr := h4.rt (M := 2 * D + 2) (by omega)
    have lz := LZ_qfloor lo
    have lq := h4.LQ
    have a1 := LZ_add (qfloor lo) 1
    rw [LZ_one] at a1
    have hz : Zt (2 * D + 2) (int (qfloor lo)) (qfloor lo) := Zt.of (by omega)
    have hz1 : Zt (2 * D + 5) (int (qfloor lo + 1)) (qfloor lo + 1) := Zt.of (by omega)
    have hr' := h4.rt (M := 2 * D + 6) (by omega)
    have hrh := h5'.rt (M := 2 * D + 6) (by omega)
    have hn : Rt (2 * D + 6) (rat ((qfloor lo + 1 : Int) : Rat)) ((qfloor lo + 1 : Int) : Rat) := Rt.of (by rw [LQ_int]; omega)
    have hf : Rt (2 * D + 6) (rat (qfloor lo : Rat)) (qfloor lo : Rat) := Rt.of (by rw [LQ_int]; omega)
    have s1 := LQ_sub hi (qfloor lo : Rat)
    have s2 := LQ_sub lo (qfloor lo : Rat)
    have lq2 := h5'.LQ
    rw [LQ_int] at s1 s2
    have hs1 : Rt (10 * D + 10) (rat (hi - (qfloor lo : Rat))) (hi - (qfloor lo : Rat)) := Rt.of (by omega)
    have hs2 : Rt (10 * D + 10) (rat (lo - (qfloor lo : Rat))) (lo - (qfloor lo : Rat)) := Rt.of (by omega)
    have b1 := qfloor_le lo
    have g := nextLo_ge h1 h2
    have ih' := ih (by have := g.2; grind) (h5'.nextLo h1 h2) (fun t ht => ⟨next_lt h1 t ht, h4.nextHi ht⟩) (l ++ [int (qfloor lo)]) R w
    have hF' : Ev (fun k => ratio_Fold.f k ((l ++ [int (qfloor lo)]) ++ t.map int)) (R, (0 : Int)) := by
      simpa using hF
    refine Ev.turn (fun k => ratio_between.p0_succ k _ _ _ _ _) ?_
    unfold ratio_between.e0
    refine Ev.bind (hr.floor (by omega) (by omega)) (Ev.bind (whole_Of_ev (n := 1) (by omega)) (Ev.bind (hz.add (one_zt (by omega)) (by omega)) ?_))
    refine Ev.fls rfl (Ev.bind (hz1.rof (by omega)) (Ev.bind (hn.cmp hrh (by omega) (by omega)) (Ev.fls (dec_f (qs_ge ?_)) ?_)))
    · rw [Rat.intCast_add, Rat.intCast_one]
      exact Rat.not_lt.2 h2
    simp only [List.length_cons] at hl
    refine Ev.tru (by simp only [Bool.and_eq_true, Nat.ble_eq, List.length_singleton]; omega) ?_
    refine Ev.bind (hz.rof (by omega)) (Ev.bind (hrh.sub hf (by omega) (by omega)) (Ev.bind (hs1.inv (by omega) (by omega) (by grind)) ?_))
    refine Ev.bind (hz.rof (by omega)) (Ev.bind (hr'.sub hf (by omega) (by omega)) ?_)
    by_cases hne : lo - (qfloor lo : Rat) = 0
    · have en : nextHi lo = none := by unfold nextHi; rw [if_pos hne]
      rw [hne] at hs2 ⊢
      refine Ev.bind (hs2.inv_zero (by omega) (by omega)) ?_
      exact ih' noRat true (by simp; omega) hF' (fun h hh => by rw [en] at hh; cases hh) (fun _ => rfl)
    · have en : nextHi lo = some (lo - (qfloor lo : Rat))⁻¹ := by unfold nextHi; rw [if_neg hne]
      refine Ev.bind (hs2.inv (by omega) (by omega) hne) ?_
      exact ih' _ false (by simp; omega) hF' (fun h hh => by rw [en] at hh; cases hh; exact ⟨rfl, rfl⟩) (fun hh => by rw [en] at hh; cases hh)

theorem Bt.fold_ev {D : Nat} (hD : D ≤ 1000000000) {lo : Rat} {hi : Option Rat} {t : List Int} (hb : Bt lo hi t) (h0 : 0 ≤ lo) (h1 : Bd D lo) (h2 : ∀ h, hi = some h → lo < h ∧ Bd D h) : t.length ≤ 4398046511104 ∧ Ev (fun k => ratio_Fold.f k (t.map int)) (rat (fold t), (0 : Int)) := by
  obtain ⟨s1, s2⟩ := hb.size h0 h1 h2
  have hp := hb.pos.1 h0
  have hne := hb.ne
  have hpos : 0 < t.length := List.length_pos_iff.2 hne
  have hlen : t.length ≤ 64 * (8 * D + 4) + 2 := by
    match t, hne with
    | [x], _ => simp
    | x :: y :: ys, _ =>
      have h3 := s1 1 (by simp)
      have h4 := fold_short (t := y :: ys) (by simp) (fun z hz => hp z (by simpa using hz)) (Nat.le_trans (LQ_num _) h3)
      simp only [List.length_cons] at h4 ⊢
      omega
  refine ⟨by omega, ?_⟩
  have hl : Ls (8 * D + 4) (t.map int) := by
    intro x hx
    obtain ⟨z, hz, rfl⟩ := List.mem_map.1 hx
    have hzz : Zt (8 * D + 4) (int z) z := Zt.of (by have := s2 z hz; omega)
    exact ⟨hzz.lim, hzz.len⟩
  have := foldg_ev (l := t.map int) hl (by omega) (by rw [List.length_map]; omega) (fun i hi => by rw [zs_int]; exact s1 i (by simpa using hi)) (by rw [zs_int]; exact hp) (by rw [List.length_map]; exact hpos)
  rw [zs_int] at this
  exact this

theorem between_ev {D : Nat} (hD : D ≤ 1000000000) {lo hi : Rat} (h0 : 0 ≤ lo) (hlt : lo < hi) (h1 : Bd D lo) (h2 : Bd D hi) : ∃ x, Simp lo (some hi) x ∧ LQ x ≤ 8 * D + 4 ∧ Ev (fun k => ratio_between.f k (rat lo) (rat hi)) (rat x) := by
  obtain ⟨t, ht⟩ := Bt.exists (lo.den + dn (some hi)) lo (some hi) (Nat.le_refl _) (fun h hh => by cases hh; exact hlt)
  have hh : ∀ h, some hi = some h → lo < h ∧ Bd D h := fun h hh => by cases hh; exact ⟨hlt, h2⟩
  have hs := ht.simp h0
  obtain ⟨f1, f2⟩ := ht.fold_ev hD h0 h1 hh
  refine ⟨fold t, hs, hs.size h0 (fun h hh' => (hh h hh').1) h1 (fun h hh' => (hh h hh').2), ?_⟩
  unfold ratio_between.f ratio_between.e
  exact between_p0 hD ht h0 h1 hh [] _ _ (rat hi) false (by simp; omega) (by simpa using f2) (fun h hh => by cases hh; exact ⟨rfl, rfl⟩) (fun hh => by cases hh)

theorem Bd.neg {D : Nat} {q : Rat} (h : Bd D q) : Bd D (-q) := ⟨by rw [Rat.neg_num, LZ_neg]; exact h.num, by rw [Rat.neg_den]; exact h.den⟩
theorem neg_iff {q : Rat} : q.num.sign < 0 ↔ q < 0 := num_sign_neg q
theorem pos_iff {q : Rat} : q.num.sign > 0 ↔ 0 < q := by
  have h := num_sign_neg (-q)
  rw [Rat.neg_num, Int.sign_neg] at h
  have : -q < 0 ↔ 0 < q := by constructor <;> intro h <;> grind
  rw [← this, ← h]; omega

theorem Rt.norm' (h : Rt M r q) (h1 : 1 ≤ M) : Bd (2 * M) q := Bd.of (h.LQ h1)

theorem simplest_no (hr : Rt M r p) (hs : Rt M s q) (h1 : 1 ≤ M) (hM : M ≤ 100000000) (h : ¬ p < q) : Ev (fun k => ratio_Simplest.f k r s) (noRat, (30 : Int)) := by
  unfold ratio_Simplest.f ratio_Simplest.e
  refine Ev.bind (hr.cmp hs h1 (by omega)) (Ev.tru (dec_t ?_) Ev.pure)
  have := qs_ge h
  omega

theorem simplest_ev (hr : Rt M r p) (hs : Rt M s q) (h1 : 1 ≤ M) (hM : M ≤ 100000000) (h : p < q) : ∃ x, Wmp p q x ∧ LQ x ≤ 16 * M + 4 ∧ Ev (fun k => ratio_Simplest.f k r s) (rat x, (0 : Int)) := by
  have bp := hr.norm' h1
  have bq := hs.norm' h1
  have e11 : ∀ w, (p < 0 → ¬ 0 < q) → ∃ x, Wmp p q x ∧ LQ x ≤ 16 * M + 4 ∧ Ev (fun k => ratio_Simplest.p11 k r s w) (rat x, (0 : Int)) := by
    intro w hw
    by_cases hp : p < 0
    · have hq := hw hp
      obtain ⟨x, x1, x2, x3⟩ := between_ev (D := 2 * M) (by omega) (lo := -q) (hi := -p) (by grind) (by grind) bq.neg bp.neg
      refine ⟨-x, (x1.wmp (by grind)).neg, by rw [LQ_neg]; omega, ?_⟩
      refine Ev.turn (fun k => ratio_Simplest.p11_succ k _ _ _) ?_
      unfold ratio_Simplest.e11
      have hx : Rt (16 * M + 4) (rat x) x := Rt.of (by omega)
      exact Ev.bind (hr.sign h1 (by omega)) (Ev.tru (dec_t (neg_iff.2 hp)) (Ev.bind (hs.neg h1 (by omega)) (Ev.bind (hr.neg h1 (by omega)) (Ev.bind x3 (Ev.bind (hx.neg (by omega) (by omega)) Ev.pure)))))
    · obtain ⟨x, x1, x2, x3⟩ := between_ev (D := 2 * M) (by omega) (lo := p) (hi := q) (by grind) h bp bq
      refine ⟨x, x1.wmp (by grind), by omega, ?_⟩
      refine Ev.turn (fun k => ratio_Simplest.p11_succ k _ _ _) ?_
      unfold ratio_Simplest.e11
      exact Ev.bind (hr.sign h1 (by omega)) (Ev.fls (dec_f (by rw [neg_iff]; exact hp)) (Ev.bind (hr.norm (by omega)) (Ev.bind (hs.norm (by omega)) (Ev.bind x3 Ev.pure))))
  have hc : Ev (fun k => ratio_Cmp.f k r s) (qs p q) := hr.cmp hs h1 (by omega)
  have hcd : decide (qs p q ≥ 0) = false := dec_f (by have := qs_lt h; omega)
  by_cases hp : p < 0
  · by_cases hq : 0 < q
    · refine ⟨0, Wmp.zero hp hq, by rw [LQ_zero]; omega, ?_⟩
      unfold ratio_Simplest.f ratio_Simplest.e
      have h0 : Rt 1 ((false, ([] : List Int)), ([] : List Int)) 0 := ⟨Lim.nil, Lim.nil, by simp, by simp, by unfold Qv; simp [V]⟩
      exact Ev.bind hc (Ev.fls hcd (Ev.bind (hr.sign h1 (by omega)) (Ev.tru (dec_t (neg_iff.2 hp)) (Ev.bind (hs.sign h1 (by omega)) (Ev.tru (dec_t (pos_iff.2 hq)) (Ev.bind (h0.norm (by omega)) Ev.pure))))))
    · obtain ⟨x, x1, x2, x3⟩ := e11 noRat (fun _ => hq)
      refine ⟨x, x1, x2, ?_⟩
      unfold ratio_Simplest.f ratio_Simplest.e
      exact Ev.bind hc (Ev.fls hcd (Ev.bind (hr.sign h1 (by omega)) (Ev.tru (dec_t (neg_iff.2 hp)) (Ev.bind (hs.sign h1 (by omega)) (Ev.fls (dec_f (by rw [pos_iff]; exact hq)) x3)))))
  · obtain ⟨x, x1, x2, x3⟩ := e11 noRat (fun h => absurd h hp)
    refine ⟨x, x1, x2, ?_⟩
    unfold ratio_Simplest.f ratio_Simplest.e
    exact Ev.bind hc (Ev.fls hcd (Ev.bind (hr.sign h1 (by omega)) (Ev.fls (dec_f (by rw [neg_iff]; exact hp)) x3)))

end Go.FK


/- The plain law: Between and Least. -/
namespace Go.FK

variable {M : Nat} {r s : RR} {p q : Rat}

theorem nsz {p : Rat} : p.num.sign = 0 ↔ p = 0 := by rw [Int.sign_eq_zero_iff_zero, Rat.num_eq_zero]

/-- No whole number lies between: what is left, turned round. -/
theorem rsimp_tail {D : Nat} (hD : 2 * D ≤ M) (hr : Rt M r p) (hs : Rt M s q) (h1 : 1 ≤ M) (hM : M ≤ 1000000000) (bp : Bd D p) (bq : Bd D q) (hlt : p < q) (hup : q ≤ (qfloor p : Rat) + 1) {t : List Int} (ht : Bt (nextLo p q) (nextHi p) t)
    (ih : ∀ h, nextHi p = some h → Ev (fun k => ref03_Simplest.f k (rat (nextLo p q)) (rat h)) (rat (fold t), (0 : Int))) : Ev (fun k => ref03_Simplest.f k r s) (rat ((qfloor p : Rat) + (fold t)⁻¹), (0 : Int)) := by
  have lz := LZ_qfloor p
  have lp := bp.LQ
  have lq := bq.LQ
  have hz : Zt (M + 2) (int (qfloor p)) (qfloor p) := Zt.of (by omega)
  have hf : Rt (M + 4) (rat (qfloor p : Rat)) (qfloor p : Rat) := Rt.of (by rw [LQ_int]; omega)
  have ho : Rt (M + 4) (rat ((1 : Int) : Rat)) ((1 : Int) : Rat) := Rt.of (by rw [LQ_one]; omega)
  have e : (qfloor p : Rat) + ((1 : Int) : Rat) = ((qfloor p + 1 : Int) : Rat) := (Rat.intCast_add _ _).symm
  have a1 := LZ_add (qfloor p) 1
  rw [LZ_one] at a1
  have hn : Rt (M + 5) (rat ((qfloor p + 1 : Int) : Rat)) ((qfloor p + 1 : Int) : Rat) := Rt.of (by rw [LQ_int]; omega)
  have s1 := LQ_sub q (qfloor p : Rat)
  have s2 := LQ_sub p (qfloor p : Rat)
  rw [LQ_int] at s1 s2
  have hr' := hr.mono (M' := M + 5) (by omega)
  have hs' := hs.mono (M' := M + 5) (by omega)
  have hf' := hf.mono (M' := M + 5) (by omega)
  have hs1 : Rt (10 * M + 10) (rat (q - (qfloor p : Rat))) (q - (qfloor p : Rat)) := Rt.of (by omega)
  have hs2 : Rt (10 * M + 10) (rat (p - (qfloor p : Rat))) (p - (qfloor p : Rat)) := Rt.of (by omega)
  have b1 := qfloor_le p
  have g := nextLo_ge hlt hup
  have bn := bq.nextLo hlt hup
  have g0 : (0 : Rat) ≤ nextLo p q := by have := g.2; grind
  have hsz : LQ (fold t) ≤ 8 * D + 4 := by
    have := (ht.size g0 bn (fun t ht => ⟨next_lt hlt t ht, bp.nextHi ht⟩)).1 0 (List.length_pos_iff.2 ht.ne)
    simpa using this
  have hpos : 1 ≤ fold t := fold_ge_one t ht.ne (ht.pos.2 g.2)
  have hne : fold t ≠ 0 := by grind
  have hx : Rt (20 * M + 20) (rat (fold t)) (fold t) := Rt.of (by omega)
  have hxi : Rt (20 * M + 20) (rat (fold t)⁻¹) (fold t)⁻¹ := Rt.of (by have := LQ_inv (fold t); omega)
  have p37 : ∀ w, Ev (fun k => ref03_Simplest.p37 k w (rat (qfloor p : Rat)) (rat (fold t))) (rat ((qfloor p : Rat) + (fold t)⁻¹), (0 : Int)) := by
    intro w
    refine Ev.turn (fun k => ref03_Simplest.p37_succ k _ _ _) ?_
    unfold ref03_Simplest.e37
    exact Ev.bind (hx.rinv (by omega) (by omega) hne) (Ev.bind ((hf.mono (M' := 20 * M + 20) (by omega)).radd hxi (by omega) (by omega)) Ev.pure)
  refine Ev.turn (fun k => ref03_Simplest.f_succ k _ _) ?_
  unfold ref03_Simplest.e
  refine Ev.bind (hr.rcmp hs h1 (by omega)) (Ev.fls (dec_f (by have := qs_lt hlt; omega)) (Ev.bind (hr.rfloor h1 (by omega)) (Ev.bind (hz.rint (by omega) (by omega)) (Ev.bind (ref03_Whole_ev (n := 1) (by omega)) (Ev.bind (hf.radd ho (by omega) (by omega)) ?_)))))
  rw [e]
  refine Ev.bind (hn.rcmp hs' (by omega) (by omega)) (Ev.fls (dec_f (qs_ge ?_)) ?_)
  · rw [Rat.intCast_add, Rat.intCast_one]
    exact Rat.not_lt.2 hup
  refine Ev.bind (hr'.rsub hf' (by omega) (by omega)) (Ev.bind (hs'.rsub hf' (by omega) (by omega)) (Ev.bind (hs1.rinv (by omega) (by omega) (by grind)) (Ev.bind (hs2.rsign (by omega) (by omega)) ?_)))
  by_cases h0 : p - (qfloor p : Rat) = 0
  · have en : nextHi p = none := by unfold nextHi; rw [if_pos h0]
    rw [en] at ht
    cases ht with
    | done lo hi h =>
      have lz' := LZ_qfloor (nextLo p q)
      have ln := bn.LQ
      have hy : Rt (M + 4) (rat (nextLo p q)) (nextLo p q) := Rt.of (by omega)
      have hz' : Zt (M + 5) (int (qfloor (nextLo p q))) (qfloor (nextLo p q)) := Zt.of (by omega)
      have hf2 : Rt (M + 6) (rat (qfloor (nextLo p q) : Rat)) (qfloor (nextLo p q) : Rat) := Rt.of (by rw [LQ_int]; omega)
      have e2 : (qfloor (nextLo p q) : Rat) + ((1 : Int) : Rat) = fold [qfloor (nextLo p q) + 1] := by
        show _ = ((qfloor (nextLo p q) + 1 : Int) : Rat)
        rw [Rat.intCast_add]
      have h3 := hf2.radd (ho.mono (M' := M + 6) (by omega)) (by omega) (by omega)
      rw [e2] at h3
      exact Ev.tru (dec_t (nsz.2 h0)) (Ev.bind (hy.rfloor (by omega) (by omega)) (Ev.bind (hz'.rint (by omega) (by omega)) (Ev.bind (ref03_Whole_ev (n := 1) (by omega)) (Ev.bind h3 (p37 _)))))
  · have en : nextHi p = some (p - (qfloor p : Rat))⁻¹ := by unfold nextHi; rw [if_neg h0]
    exact Ev.fls (dec_f (fun h => h0 (nsz.1 h))) (Ev.bind (hs2.rinv (by omega) (by omega) h0) (Ev.bind (ih _ en) (p37 _)))

/-- Above 0 the reference goes the same way down. -/
theorem rsimp_pos {D : Nat} (hD : 2 * D ≤ M) (h1 : 1 ≤ M) (hM : M ≤ 1000000000) {lo : Rat} {hi : Option Rat} {t : List Int} (hb : Bt lo hi t) : 0 ≤ lo → Bd D lo → ∀ h, hi = some h → lo < h → Bd D h → ∀ (r s : RR), Rt M r lo → Rt M s h → Ev (fun k => ref03_Simplest.f k r s) (rat (fold t), (0 : Int)) := by
  induction hb with
  | done lo hi hup =>
    intro h0 b1 h hh hlt b2 r s hr hs
    have lz := LZ_qfloor lo
    have lp := b1.LQ
    have hz : Zt (M + 2) (int (qfloor lo)) (qfloor lo) := Zt.of (by omega)
    have hf : Rt (M + 4) (rat (qfloor lo : Rat)) (qfloor lo : Rat) := Rt.of (by rw [LQ_int]; omega)
    have ho : Rt (M + 4) (rat ((1 : Int) : Rat)) ((1 : Int) : Rat) := Rt.of (by rw [LQ_one]; omega)
    have e : (qfloor lo : Rat) + ((1 : Int) : Rat) = ((qfloor lo + 1 : Int) : Rat) := (Rat.intCast_add _ _).symm
    have a1 := LZ_add (qfloor lo) 1
    rw [LZ_one] at a1
    have hn : Rt (M + 5) (rat ((qfloor lo + 1 : Int) : Rat)) ((qfloor lo + 1 : Int) : Rat) := Rt.of (by rw [LQ_int]; omega)
    have h2 := hup h hh
    have neg : ¬ lo < 0 := by grind
    refine Ev.turn (fun k => ref03_Simplest.f_succ k _ _) ?_
    unfold ref03_Simplest.e
    refine Ev.bind (hr.rcmp hs h1 (by omega)) (Ev.fls (dec_f (by have := qs_lt hlt; omega)) (Ev.bind (hr.rfloor h1 (by omega)) (Ev.bind (hz.rint (by omega) (by omega)) (Ev.bind (ref03_Whole_ev (n := 1) (by omega)) (Ev.bind (hf.radd ho (by omega) (by omega)) ?_)))))
    rw [e]
    refine Ev.bind (hn.rcmp (hs.mono (M' := M + 5) (by omega)) (by omega) (by omega)) (Ev.tru (dec_t (qs_neg.2 ?_)) (Ev.bind (hr.rsign h1 (by omega)) (Ev.fls (dec_f (by rw [neg_iff]; exact neg)) ?_)))
    · rw [Rat.intCast_add, Rat.intCast_one]; exact h2
    refine Ev.turn (fun k => ref03_Simplest.p17_succ k _ _ _ _) ?_
    unfold ref03_Simplest.e17
    exact Ev.bind (hr.rsign h1 (by omega)) (Ev.tru (dec_t (by have := mt neg_iff.1 neg; omega)) Ev.pure)
  | step lo hi t h1' h2 h3 ih =>
    intro h0 b1 h hh hlt b2 r s hr hs
    cases hh
    rw [fold_cons _ h3.ne]
    have g := nextLo_ge h1' h2
    have bn := b2.nextLo h1' h2
    refine rsimp_tail hD hr hs h1 hM b1 b2 h1' h2 h3 fun h' hh' => ?_
    have bh := b1.nextHi hh'
    exact ih (by have := g.2; grind) bn h' hh' (next_lt h1' h' hh') bh _ _ (bn.rt hD) (bh.rt hD)

theorem rsimplest_no (hr : Rt M r p) (hs : Rt M s q) (h1 : 1 ≤ M) (hM : M ≤ 100000000) (h : ¬ p < q) : Ev (fun k => ref03_Simplest.f k r s) (noRat, (30 : Int)) := by
  refine Ev.turn (fun k => ref03_Simplest.f_succ k _ _) ?_
  unfold ref03_Simplest.e
  refine Ev.bind (hr.rcmp hs h1 (by omega)) (Ev.tru (dec_t ?_) Ev.pure)
  have := qs_ge h
  omega

theorem rsimplest_ev (hr : Rt M r p) (hs : Rt M s q) (h1 : 1 ≤ M) (hM : M ≤ 100000000) (h : p < q) : ∃ x, Wmp p q x ∧ Ev (fun k => ref03_Simplest.f k r s) (rat x, (0 : Int)) := by
  have bp := hr.norm' h1
  have bq := hs.norm' h1
  have hr4 := hr.mono (M' := 4 * M) (by omega)
  have hs4 := hs.mono (M' := 4 * M) (by omega)
  by_cases hp : p < 0
  · by_cases hup : q ≤ (qfloor p : Rat) + 1
    · have g := nextLo_ge h hup
      have g0 : (0 : Rat) ≤ nextLo p q := by have := g.2; grind
      have bn := bq.nextLo h hup
      obtain ⟨t, ht⟩ := Bt.exists ((nextLo p q).den + dn (nextHi p)) (nextLo p q) (nextHi p) (Nat.le_refl _) (next_lt h)
      refine ⟨_, simp_wmp_neg hp h hup (ht.simp g0), rsimp_tail (M := 4 * M) (D := 2 * M) (by omega) hr4 hs4 (by omega) (by omega) bp bq h hup ht fun h' hh' => ?_⟩
      have bh := bp.nextHi hh'
      exact rsimp_pos (M := 4 * M) (D := 2 * M) (by omega) (by omega) (by omega) ht g0 bn h' hh' (next_lt h h' hh') bh _ _ (bn.rt (by omega)) (bh.rt (by omega))
    · have hup : (qfloor p : Rat) + 1 < q := Rat.not_le.1 hup
      have lz := LZ_qfloor p
      have lp := hr.LQ h1
      have lq := hs.LQ h1
      have hz : Zt (4 * M) (int (qfloor p)) (qfloor p) := Zt.of (by omega)
      have hf : Rt (4 * M) (rat (qfloor p : Rat)) (qfloor p : Rat) := Rt.of (by rw [LQ_int]; omega)
      have ho : Rt (4 * M) (rat ((1 : Int) : Rat)) ((1 : Int) : Rat) := Rt.of (by rw [LQ_one]; omega)
      have e : (qfloor p : Rat) + ((1 : Int) : Rat) = ((qfloor p + 1 : Int) : Rat) := (Rat.intCast_add _ _).symm
      have a1 := LZ_add (qfloor p) 1
      rw [LZ_one] at a1
      have hn : Rt (4 * M + 4) (rat ((qfloor p + 1 : Int) : Rat)) ((qfloor p + 1 : Int) : Rat) := Rt.of (by rw [LQ_int]; omega)
      have key : ∀ x, Ev (fun k => Option.bind (ref03_Sign.f k r) fun r7 => bif decide (r7 < (0 : Int)) then (Option.bind (ref03_Sign.f k s) fun r8 => bif decide (r8 > (0 : Int)) then (Option.bind (ref03_Whole.f k (0 : Int)) fun r9 => some (r9, (0 : Int))) else ref03_Simplest.p17 k r s ((false, ([] : List Int)), ([] : List Int)) (rat ((qfloor p + 1 : Int) : Rat))) else ref03_Simplest.p17 k r s ((false, ([] : List Int)), ([] : List Int)) (rat ((qfloor p + 1 : Int) : Rat))) x → Ev (fun k => ref03_Simplest.f k r s) x := by
        intro x hx
        refine Ev.turn (fun k => ref03_Simplest.f_succ k _ _) ?_
        unfold ref03_Simplest.e
        refine Ev.bind (hr.rcmp hs h1 (by omega)) (Ev.fls (dec_f (by have := qs_lt h; omega)) (Ev.bind (hr.rfloor h1 (by omega)) (Ev.bind (hz.rint (by omega) (by omega)) (Ev.bind (ref03_Whole_ev (n := 1) (by omega)) (Ev.bind (hf.radd ho (by omega) (by omega)) ?_)))))
        rw [e]
        refine Ev.bind (hn.rcmp (hs.mono (M' := 4 * M + 4) (by omega)) (by omega) (by omega)) (Ev.tru (dec_t (qs_neg.2 ?_)) hx)
        rw [Rat.intCast_add, Rat.intCast_one]; exact hup
      by_cases hq : 0 < q
      · refine ⟨0, Wmp.zero hp hq, key _ ?_⟩
        exact Ev.bind (hr.rsign h1 (by omega)) (Ev.tru (dec_t (neg_iff.2 hp)) (Ev.bind (hs.rsign h1 (by omega)) (Ev.tru (dec_t (pos_iff.2 hq)) (Ev.bind (ref03_Whole_ev (n := 0) (by omega)) Ev.pure))))
      · have hle : ¬ 0 < q := hq
        have hs0 : Simp (-q) (some (-p)) ((qfloor (-q) : Rat) + 1) := by
          refine simp_int (by grind) fun h' hh' => ?_
          cases hh'
          -- the whole number above p and below q
          have h3 : qfloor (-q) < -(qfloor p + 1) := by
            have h4 := qfloor_le (-q)
            have h5 : ((qfloor (-q) : Int) : Rat) < ((-(qfloor p + 1) : Int) : Rat) ∨ ((qfloor (-q) : Int) : Rat) = ((-(qfloor p + 1) : Int) : Rat) ∨ True := Or.inr (Or.inr trivial)
            have h6 : ((qfloor (-q) : Int) : Rat) < ((-(qfloor p + 1) : Int) : Rat) := by
              rw [Rat.intCast_neg, Rat.intCast_add, Rat.intCast_one]
              grind
            exact Rat.intCast_lt_intCast.1 h6
          have h4 : ((qfloor (-q) + 1 : Int) : Rat) ≤ ((-(qfloor p + 1) : Int) : Rat) := Rat.intCast_le_intCast.2 (by omega)
          rw [Rat.intCast_add, Rat.intCast_neg, Rat.intCast_add, Rat.intCast_one] at h4
          have h5 := lt_qfloor p
          grind
        have hw := (hs0.wmp (by grind)).neg
        have e2 : -((qfloor (-q) : Rat) + 1) = ((-qfloor (-q) : Int) : Rat) - ((1 : Int) : Rat) := by
          rw [Rat.intCast_neg, Rat.intCast_one]; grind
        rw [e2] at hw
        refine ⟨_, hw, key _ ?_⟩
        have lg := LZ_qfloor (-q)
        rw [LQ_neg] at lg
        have hc : Zt (4 * M) (int (-qfloor (-q))) (-qfloor (-q)) := Zt.of (by rw [LZ_neg]; omega)
        have hcr : Rt (4 * M) (rat ((-qfloor (-q) : Int) : Rat)) ((-qfloor (-q) : Int) : Rat) := Rt.of (by rw [LQ_int, LZ_neg]; omega)
        have p17 : Ev (fun k => ref03_Simplest.p17 k r s ((false, ([] : List Int)), ([] : List Int)) (rat ((qfloor p + 1 : Int) : Rat))) (rat (((-qfloor (-q) : Int) : Rat) - ((1 : Int) : Rat)), (0 : Int)) := by
          refine Ev.turn (fun k => ref03_Simplest.p17_succ k _ _ _ _) ?_
          unfold ref03_Simplest.e17
          have := neg_iff.2 hp
          exact Ev.bind (hr.rsign h1 (by omega)) (Ev.fls (dec_f (by omega)) (Ev.bind (hs.rceil h1 (by omega)) (Ev.bind (hc.rint (by omega) (by omega)) (Ev.bind (ref03_Whole_ev (n := 1) (by omega)) (Ev.bind (hcr.rsub ho (by omega) (by omega)) Ev.pure)))))
        exact Ev.bind (hr.rsign h1 (by omega)) (Ev.tru (dec_t (neg_iff.2 hp)) (Ev.bind (hs.rsign h1 (by omega)) (Ev.fls (dec_f (by rw [pos_iff]; exact hq)) p17)))
  · obtain ⟨t, ht⟩ := Bt.exists (p.den + dn (some q)) p (some q) (Nat.le_refl _) (fun h' hh => by cases hh; exact h)
    have h0 : (0 : Rat) ≤ p := by grind
    exact ⟨_, (ht.simp h0).wmp h0, rsimp_pos (M := 4 * M) (D := 2 * M) (by omega) (by omega) (by omega) ht h0 bp q rfl h bq _ _ hr4 hs4⟩

/-! ### The laws -/
theorem between_p11 : Ev (fun k => law03_RatioBetween.p11 k ()) true := by
  refine Ev.turn (fun k => law03_RatioBetween.p11_succ k _) ?_
  unfold law03_RatioBetween.e11
  exact Ev.bind half_ev Ev.pure

theorem law_between_ev (hr : Rt M r p) (hs : Rt M s q) (h1 : 1 ≤ M) (hM : M ≤ 100000000) : Ev (fun k => law03_RatioBetween.f k r s) true := by
  unfold law03_RatioBetween.f law03_RatioBetween.e
  refine Ev.bind (hr.twin (by omega)) (Ev.bind (hs.twin (by omega)) ?_)
  by_cases h : p < q
  · obtain ⟨x, x1, x2, x3⟩ := simplest_ev hr hs h1 hM h
    obtain ⟨y, y1, y2⟩ := rsimplest_ev hr hs h1 hM h
    obtain rfl := x1.uniq y1
    refine Ev.bind x3 (Ev.bind y2 (Ev.fls (by simp) (Ev.tru (by simp) (Ev.bind (same_rat x2 (by omega)) (Ev.fls rfl (Ev.fls (by simp) between_p11))))))
  · refine Ev.bind (simplest_no hr hs h1 hM h) (Ev.bind (rsimplest_no hr hs h1 hM h) (Ev.fls (by simp) (Ev.fls (by simp) (Ev.tru (by simp) (Ev.bind none_noRat (Ev.fls rfl between_p11))))))

theorem law_least_ev {u : RR} {w : Rat} (hr : Rt M r p) (hs : Rt M s q) (hu : Rt M u w) (h1 : 1 ≤ M) (hM : M ≤ 10000000) : Ev (fun k => law03_RatioLeast.f k r s u) true := by
  unfold law03_RatioLeast.f law03_RatioLeast.e
  have tr := hr.twin (by omega)
  have ts := hs.twin (by omega)
  have p21 : Ev (fun k => law03_RatioLeast.p21 k ()) true := Ev.turn (fun k => law03_RatioLeast.p21_succ k _) Ev.pure
  refine Ev.bind tr (Ev.bind ts ?_)
  by_cases h : p < q
  · obtain ⟨x, x1, x2, x3⟩ := simplest_ev hr hs h1 (by omega) h
    have hx : Rt (16 * M + 4) (rat x) x := Rt.of x2
    have hr' := hr.mono (M' := 16 * M + 4) (by omega)
    have hs' := hs.mono (M' := 16 * M + 4) (by omega)
    have lw := hu.LQ h1
    have hw : Rt (16 * M + 4) (rat w) w := Rt.of (by omega)
    have e1 := qs_lt h
    refine Ev.bind x3 (Ev.bind tr (Ev.bind ts (Ev.bind (hr.cmp hs h1 (by omega)) (Ev.fls (by rw [e1]; rfl) (Ev.bind half_ev (Ev.fls rfl (Ev.fls rfl ?_)))))))
    refine Ev.bind tr (Ev.bind (hr'.cmp hx (by omega) (by omega)) (Ev.fls (dec_f (by have := qs_lt x1.above; omega)) (Ev.bind ts (Ev.bind (hx.cmp hs' (by omega) (by omega)) (Ev.fls (dec_f (by have := qs_lt x1.below; omega)) ?_)))))
    refine Ev.bind (hu.rnorm (by omega)) (Ev.bind (hr'.rcmp hw (by omega) (by omega)) ?_)
    by_cases h2 : p < w
    · refine Ev.fls (dec_f (by have := qs_lt h2; omega)) (Ev.bind (hw.rcmp hs' (by omega) (by omega)) ?_)
      by_cases h3 : w < q
      · refine Ev.fls (dec_f (by have := qs_lt h3; omega)) ?_
        have hl := x1.least w h2 h3
        have nw : Nt (16 * M + 4) (lim w.den) w.den := Rt.den' (by omega)
        have nx : Nt (16 * M + 4) (lim x.den) x.den := Rt.den' x2
        have zw : Nt (16 * M + 4) (lim w.num.natAbs) w.num.natAbs := (Rt.num' (q := w) (by omega)).nt
        have zx : Nt (16 * M + 4) (lim x.num.natAbs) x.num.natAbs := (Rt.num' x2).nt
        refine Ev.bind (nw.rcmp nx (by omega)) ?_
        rcases hl with hl | ⟨hl, hl2⟩
        · refine Ev.tru (dec_t ?_) Ev.pure
          rw [sgn_gt (by omega)]; omega
        · rw [hl]
          refine Ev.fls (dec_f (by rw [sgn_eq rfl]; omega)) (Ev.tru (dec_t (by rw [sgn_eq rfl])) (Ev.bind (zw.rcmp zx (by omega)) (Ev.eq ?_)))
          rw [dec_t]
          rcases Nat.lt_or_ge x.num.natAbs w.num.natAbs with h4 | h4
          · rw [sgn_gt (by omega)]; omega
          · rw [sgn_eq (by omega)]; omega
      · exact Ev.tru (dec_t (by have := qs_ge h3; omega)) p21
    · exact Ev.tru (dec_t (by have := qs_ge h2; omega)) p21
  · have e1 := qs_ge h
    refine Ev.bind (simplest_no hr hs h1 (by omega) h) (Ev.bind tr (Ev.bind ts (Ev.bind (hr.cmp hs h1 (by omega)) (Ev.fls (by rw [dec_f e1]; rfl) (Ev.bind half_ev (Ev.fls rfl (Ev.tru rfl Ev.pure)))))))

theorem floorLeast_math (x : TD [tyRat]) (hw : wfDs (encT [tyRat] x)) (hm : massDs (encT [tyRat] x) ≤ 1048576) : ∃ k, law03_RatioFloorLeast.f k x = some true := by
  obtain ⟨h1, _⟩ := hw
  have hm' : tyRat.mass x + 0 ≤ 1048576 := hm
  exact (floorLeast_ev (rat_rt (r := x) h1 (M := 1048576) (by omega)) (by omega) (by omega)).some
theorem between_math (x : TD [tyRat, tyRat]) (hw : wfDs (encT [tyRat, tyRat] x)) (hm : massDs (encT [tyRat, tyRat] x) ≤ 1048576) : ∃ k, law03_RatioBetween.f k x.1 x.2 = some true := by
  obtain ⟨h1, h2, _⟩ := hw
  have hm' : tyRat.mass x.1 + (tyRat.mass x.2 + 0) ≤ 1048576 := hm
  exact (law_between_ev (rat_rt (r := x.1) h1 (M := 1048576) (by omega)) (rat_rt (r := x.2) h2 (M := 1048576) (by omega)) (by omega) (by omega)).some
theorem least_math (x : TD [tyRat, tyRat, tyRat]) (hw : wfDs (encT [tyRat, tyRat, tyRat] x)) (hm : massDs (encT [tyRat, tyRat, tyRat] x) ≤ 1048576) : ∃ k, law03_RatioLeast.f k x.1 x.2.1 x.2.2 = some true := by
  obtain ⟨h1, h2, h3, _⟩ := hw
  have hm' : tyRat.mass x.1 + (tyRat.mass x.2.1 + (tyRat.mass x.2.2 + 0)) ≤ 1048576 := hm
  exact (law_least_ev (rat_rt (r := x.1) h1 (M := 1048576) (by omega)) (rat_rt (r := x.2.1) h2 (M := 1048576) (by omega)) (rat_rt (r := x.2.2) h3 (M := 1048576) (by omega)) (by omega) (by omega)).some

end Go.FK
