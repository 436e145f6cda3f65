import Derived.Test.YtkkijdbgnnmjhaaGreatDoorM5

/- The plain law of Delta: Keeps, Greatest. -/
namespace Go.FK

theorem num_pos' {x : Rat} : 0 < x ↔ 0 < x.num := by rw [Rat.lt_iff]; simp
theorem sgn_le {x : Rat} : x.num.sign ≤ 0 ↔ ¬ 0 < x := by
  rw [num_pos']
  constructor
  · intro h h2
    rw [Int.sign_eq_one_of_pos h2] at h; omega
  · intro h
    rcases sign_cases x.num with h1 | h1 | h1
    · omega
    · omega
    · exact absurd (Int.pos_of_sign_eq_one h1) h

theorem qs_nlt {p q : Rat} (h : ¬ q < p) : qs p q ≤ 0 := by
  rcases Rat.le_iff_lt_or_eq.1 (Rat.not_lt.1 h) with h | h
  · rw [qs_lt h]; omega
  · rw [qs_eq h]; omega

theorem gmin_le (o : Rat) (g : GG) : gmin o g ≤ o := by
  unfold gmin
  split
  · exact Rat.le_refl
  · split
    · exact Rat.le_refl
    · split
      · rename_i h; exact Rat.le_of_lt h
      · exact Rat.le_refl
theorem gmin_le' (o : Rat) (g : GG) (h1 : 0 < high g) (h2 : 0 < steep g) : gmin o g ≤ high g * (steep g)⁻¹ := by
  unfold gmin
  rw [if_neg (fun h => (sgn_le.1 h) h1), if_neg (fun h => (sgn_le.1 h) h2)]
  split
  · exact Rat.le_refl
  · rename_i h; exact Rat.not_lt.1 h
theorem gmin_or (o : Rat) (g : GG) : gmin o g = o ∨ (0 < high g ∧ 0 < steep g ∧ gmin o g = high g * (steep g)⁻¹) := by
  unfold gmin
  by_cases c1 : (high g).num.sign ≤ 0
  · rw [if_pos c1]; exact Or.inl rfl
  by_cases c2 : (steep g).num.sign ≤ 0
  · rw [if_neg c1, if_pos c2]; exact Or.inl rfl
  rw [if_neg c1, if_neg c2]
  have h1 : 0 < high g := Decidable.byContradiction fun h => c1 (sgn_le.2 h)
  have h2 : 0 < steep g := Decidable.byContradiction fun h => c2 (sgn_le.2 h)
  split
  · exact Or.inr ⟨h1, h2, rfl⟩
  · exact Or.inl rfl

theorem least_le : ∀ (l : List GG) (o : Rat), l.foldl gmin o ≤ o ∧ ∀ g ∈ l, 0 < high g → 0 < steep g → l.foldl gmin o ≤ high g * (steep g)⁻¹
  | [], _ => ⟨Rat.le_refl, fun _ h => nomatch h⟩
  | x :: l, o => by
    have ih := least_le l (gmin o x)
    refine ⟨Rat.le_trans ih.1 (gmin_le o x), fun g hg h1 h2 => ?_⟩
    rcases List.mem_cons.1 hg with h | h
    · subst h; exact Rat.le_trans ih.1 (gmin_le' o _ h1 h2)
    · exact ih.2 g h h1 h2
theorem quot_pos {x y : Rat} (h1 : 0 < x) (h2 : 0 < y) : 0 < x * y⁻¹ := Rat.mul_pos h1 (Rat.inv_pos.2 h2)
theorem least_pos : ∀ (l : List GG) (o : Rat), 0 < o → 0 < l.foldl gmin o
  | [], _, h => h
  | x :: l, o, h => by
    refine least_pos l (gmin o x) ?_
    rcases gmin_or o x with h1 | ⟨h1, h2, h3⟩
    · rw [h1]; exact h
    · rw [h3]; exact quot_pos h1 h2
theorem least_or : ∀ (l : List GG) (o : Rat), l.foldl gmin o = o ∨ ∃ g ∈ l, 0 < high g ∧ 0 < steep g ∧ l.foldl gmin o = high g * (steep g)⁻¹
  | [], _ => Or.inl rfl
  | x :: l, o => by
    rcases least_or l (gmin o x) with h | ⟨g, hg, h⟩
    · rcases gmin_or o x with h1 | ⟨h1, h2, h3⟩
      · left; rw [List.foldl_cons, h, h1]
      · right; exact ⟨x, List.mem_cons_self, h1, h2, by rw [List.foldl_cons, h, h3]⟩
    · right; exact ⟨g, List.mem_cons_of_mem _ hg, h⟩

theorem quot_mul {x y : Rat} (h : 0 < y) : x * y⁻¹ * y = x := by
  rw [Rat.mul_assoc, Rat.inv_mul_cancel y (fun h0 => by rw [h0] at h; exact absurd h (by decide)), Rat.mul_one]

theorem keeps_gap {g : GG} {t : Rat} (hb : gbad g = false) (h0 : 0 ≤ t) (ht : 0 < high g → 0 < steep g → t ≤ high g * (steep g)⁻¹) : ¬ Qv g.2.1 + Qv g.2.2 * t < Qv g.1.1 + Qv g.1.2 * t := by
  unfold gbad at hb
  have hb := of_decide_eq_false hb
  unfold dcm at hb
  unfold high steep at ht
  generalize Qv g.1.1 = a at *
  generalize Qv g.1.2 = b at *
  generalize Qv g.2.1 = c at *
  generalize Qv g.2.2 = d at *
  have mono : b ≤ d → b * t ≤ d * t := fun h => Rat.mul_le_mul_of_nonneg_right h h0
  by_cases e : qs a c = 0
  · rw [if_pos e] at hb
    have e2 : a = c := qs_zero.1 e
    have h1 : b ≤ d := Rat.not_lt.1 fun h => by rw [qs_gt h] at hb; omega
    have := mono h1
    grind
  · rw [if_neg e] at hb
    have h1 : a ≤ c := Rat.not_lt.1 fun h => by rw [qs_gt h] at hb; omega
    have h2 : a ≠ c := fun h => e (qs_eq h)
    have h3 : a < c := Rat.not_le.1 fun h => h2 (Rat.le_antisymm h1 h)
    by_cases h4 : 0 < b - d
    · have h5 := ht (by grind) h4
      have h6 : t * (b - d) ≤ (c - a) * (b - d)⁻¹ * (b - d) := Rat.mul_le_mul_of_nonneg_right h5 (Rat.le_of_lt h4)
      rw [quot_mul h4] at h6
      grind
    · have := mono (by grind)
      grind

theorem greatest_gap {g : GG} {t : Rat} (_h1 : 0 < high g) (h2 : 0 < steep g) (ht : high g * (steep g)⁻¹ < t) : Qv g.2.1 + Qv g.2.2 * t < Qv g.1.1 + Qv g.1.2 * t := by
  have h6 : high g * (steep g)⁻¹ * steep g < t * steep g := Rat.mul_lt_mul_of_pos_right ht h2
  rw [quot_mul h2] at h6
  unfold high steep at h6
  generalize Qv g.1.1 = a at *
  generalize Qv g.1.2 = b at *
  generalize Qv g.2.1 = c at *
  generalize Qv g.2.2 = d at *
  grind

section
variable {M : Nat} {l : List GG}
/-! ### The given part of an amount -/
theorem part_ev {r : RR} {e : Rat} (hr : Rt M r e) (h1 : 2 ≤ M) (hM : M ≤ 1000000000) {n m : Int} (hn : 0 ≤ n ∧ n < 4294967296) (hm : 0 ≤ m ∧ m < 4294967296) : ∃ p : Rat, 0 ≤ p ∧ p ≤ 1 ∧ LQ p ≤ 4 ∧ Ev (fun k => law05_part.f k r n m) (rat (e * p)) := by
  have w1 : IntKind.u64.wrap (IntKind.u64.wrap m + 1) = m + 1 := by rw [wrap_u64, wrap_u64]; omega
  have w2 : IntKind.u64.wrap (m + 1 + 1) = m + 2 := by rw [wrap_u64]; omega
  have w3 : IntKind.u64.wrap n = n := by rw [wrap_u64]; omega
  have w4 : Int.tmod n (m + 2) = n % (m + 2) := Int.tmod_eq_emod_of_nonneg hn.1
  obtain ⟨v, hv⟩ : ∃ v : Int, n % (m + 2) = v := ⟨_, rfl⟩
  have v0 : 0 ≤ v := by rw [← hv]; exact Int.emod_nonneg _ (by omega)
  have v1 : v < m + 2 := by rw [← hv]; exact Int.emod_lt_of_pos _ (by omega)
  have f1 : IntKind.u32.wrap v = v % 4294967296 := wrap_u32 v
  have f2 : IntKind.u32.wrap (Int.fdiv v (2 ^ 32)) = v / 4294967296 := by
    rw [Int.fdiv_eq_ediv_of_nonneg _ (by omega), wrap_u32]; omega
  have g1 : IntKind.u32.wrap (m + 1) = (m + 1) % 4294967296 := wrap_u32 _
  have g2 : IntKind.u32.wrap (Int.fdiv (m + 1) (2 ^ 32)) = (m + 1) / 4294967296 := by
    rw [Int.fdiv_eq_ediv_of_nonneg _ (by omega), wrap_u32]; omega
  have n1 : Nt 2 [v % 4294967296, v / 4294967296] v.toNat := ⟨Lim.mk (by simp only [B]; omega) (Lim.mk (by simp only [B]; omega) Lim.nil), by simp only [V, B]; omega, by simp⟩
  have n2 : Nt 2 [(m + 1) % 4294967296, (m + 1) / 4294967296] (m + 1).toNat := ⟨Lim.mk (by simp only [B]; omega) (Lim.mk (by simp only [B]; omega) Lim.nil), by simp only [V, B]; omega, by simp⟩
  have hp := Rt.mk2 (Zt.pos n1) n2
  refine ⟨mkRat (v.toNat : Int) (m + 1).toNat, ?_, ?_, hp.LQ (by omega), ?_⟩
  · rw [← Rat.divInt_ofNat]; exact (Rat.divInt_nonneg_iff_of_pos_right (by omega)).2 (by omega)
  · have e1 : (1 : Rat) = Rat.divInt 1 1 := by decide +kernel
    rw [← Rat.divInt_ofNat, e1, Rat.le_iff_sub_nonneg, Rat.divInt_sub_divInt _ _ (by omega) (by omega)]
    exact (Rat.divInt_nonneg_iff_of_pos_right (by omega)).2 (by omega)
  · unfold law05_part.f law05_part.e
    rw [w1, w2, w3, w4, hv, f1, f2, g1, g2]
    have hne : decide (m + 2 = 0) = false := decide_eq_false (by omega)
    exact Ev.fls hne (Ev.fls hne (Ev.bind (hr.rmul (hp.mono (by omega)) (by omega) (by omega)) Ev.pure))

/-! ### Keeps -/
/-! ### Greatest -/
end

theorem u32_in {n : Int} (h : (Ty.int IntKind.u32).wf n) : 0 ≤ n ∧ n < 4294967296 := by
  have h3 : IntKind.u32.min ≤ n ∧ n ≤ IntKind.u32.max := h
  have e1 : IntKind.u32.min = 0 := by decide
  have e2 : IntKind.u32.max = 4294967295 := by decide
  rw [e1, e2] at h3
  omega
end Go.FK


/- DeltaTells: order is what all small amounts say. -/
namespace Go.FK

theorem tells_lt {p q s t T e : Rat} (hpq : dcm p q s t < 0) (h0 : 0 < T) (he : T + T ≤ e) (hm : 0 < s - p → 0 < q - t → e ≤ (s - p) * (q - t)⁻¹) : p + q * T < s + t * T := by
  unfold dcm at hpq
  by_cases h : qs p s = 0
  · rw [if_pos h, qs_neg] at hpq
    rw [qs_zero] at h
    have := Rat.mul_lt_mul_of_pos_right hpq h0
    grind
  · rw [if_neg h, qs_neg] at hpq
    by_cases hst : 0 < q - t
    · have h1 := hm (by grind) hst
      have h2 : T < e := by grind
      have h3 : T * (q - t) < e * (q - t) := Rat.mul_lt_mul_of_pos_right h2 hst
      have h4 : e * (q - t) ≤ (s - p) * (q - t)⁻¹ * (q - t) := Rat.mul_le_mul_of_nonneg_right h1 (Rat.le_of_lt hst)
      rw [quot_mul hst] at h4
      have h5 : T * (q - t) = T * q - T * t := by grind
      rw [h5] at h3
      have e1 : q * T = T * q := Rat.mul_comm _ _
      have e2 : t * T = T * t := Rat.mul_comm _ _
      rw [e1, e2]
      grind
    · have h3 : q ≤ t := by grind
      have h4 := Rat.mul_le_mul_of_nonneg_right h3 (Rat.le_of_lt h0)
      grind

theorem dcm_swap (p q s t : Rat) : dcm s t p q = - dcm p q s t := by
  have sw : ∀ x y : Rat, qs y x = - qs x y := fun x y => by
    rcases (show x < y ∨ x = y ∨ y < x by grind) with h | h | h
    · rw [qs_lt h, qs_gt h]; rfl
    · rw [qs_eq h, qs_eq h.symm]; rfl
    · rw [qs_gt h, qs_lt h]
  unfold dcm
  rw [sw p s, sw q t]
  by_cases h : qs p s = 0
  · rw [if_pos h, if_pos (by omega)]
  · rw [if_neg h, if_neg (by omega)]

theorem dcm_zero {p q s t : Rat} (h : dcm p q s t = 0) : p = s ∧ q = t := by
  unfold dcm at h
  by_cases c : qs p s = 0
  · rw [if_pos c] at h
    exact ⟨qs_zero.1 c, qs_zero.1 h⟩
  · rw [if_neg c] at h
    exact absurd h c

variable {M : Nat} {a b : DD} {p q s t : Rat}

/-- What follows of two in order. -/
theorem tells_p13 (ha : Dt M a p q) (hb : Dt M b s t) {lo hi : DD} {p1 q1 s1 t1 : Rat} (hlo : Dt M lo p1 q1) (hhi : Dt M hi s1 t1) (h1 : 2 ≤ M) (hM : M ≤ 2000000) {n m x : Int} (hn : 0 ≤ n ∧ n < 4294967296) (hm : 0 ≤ m ∧ m < 4294967296)
    (hle : dcm p1 q1 s1 t1 ≤ 0) (hx : x = dcm p q s t) (hway : (lo = a ∧ hi = b ∧ p1 = p ∧ q1 = q ∧ s1 = s ∧ t1 = t) ∨ (lo = b ∧ hi = a ∧ p1 = s ∧ q1 = t ∧ s1 = p ∧ t1 = q)) :
    Ev (fun k => law05_DeltaTells.p13 k (n, m) a b lo hi x) true := by
  have e1 := hlo.a.val
  have e2 := hlo.b.val
  have e3 := hhi.a.val
  have e4 := hhi.b.val
  have hg : Gt M (lo, hi) := ⟨by rw [e1, e2]; exact hlo, by rw [e3, e4]; exact hhi⟩
  have hl : Gs M [(lo, hi)] := fun g h => by
    rw [List.mem_singleton] at h
    rw [h]
    exact hg
  have hbad : [(lo, hi)].any gbad = false := by
    simp only [List.any_cons, List.any_nil, Bool.or_false]
    unfold gbad
    simp only [e1, e2, e3, e4]
    exact decide_eq_false (by omega)
  have hsm : small [(lo, hi)] = (rat (gmin 1 (lo, hi)), 0) := by
    unfold small
    rw [hbad, if_neg (by simp)]
    rfl
  have hsev := small_ev hl (by omega) (by omega) (by simp)
  rw [hsm] at hsev
  have hL : LQ (gmin 1 (lo, hi)) ≤ 19 * M := gmin_LQ hg (by omega) (LQ_one' (by omega))
  obtain ⟨pp, hp0, hp1, hpL, hpev⟩ := part_ev (M := 19 * M) (Rt.of hL) (by omega) (by omega) hn hm
  generalize he : gmin 1 (lo, hi) = e at *
  have hpos : 0 < e := by rw [← he]; exact least_pos [(lo, hi)] 1 (by decide)
  have hmin : 0 < s1 - p1 → 0 < q1 - t1 → e ≤ (s1 - p1) * (q1 - t1)⁻¹ := fun k1 k2 => by
    have := gmin_le' 1 (lo, hi) (by unfold high; rw [e1, e3]; exact k1) (by unfold steep; rw [e2, e4]; exact k2)
    rw [he] at this
    unfold high steep at this
    rw [e1, e2, e3, e4] at this
    exact this
  -- half of a part of it
  have n1 : Nt 30 [1] 1 := ⟨Lim.mk (by simp [B]) Lim.nil, by simp [V], by simp⟩
  have n2 : Nt 30 [2] 2 := ⟨Lim.mk (by simp [B]) Lim.nil, by simp [V], by simp⟩
  have rh : Rt 30 ((false, [1]), [2]) (mkRat 1 2) := Rt.mk2 (Zt.pos n1) n2
  have lep := LQ_mul e pp
  have mp := (Rt.of (M := 19 * M + 30) (q := e * pp) (by omega)).rmul (rh.mono (by omega)) (by omega) (by omega)
  have lh : LQ (mkRat 1 2) ≤ 60 := rh.LQ (by omega)
  have lt := LQ_mul (e * pp) (mkRat 1 2)
  have hT : e * pp * mkRat 1 2 + e * pp * mkRat 1 2 ≤ e := by
    have h2 : e * pp * mkRat 1 2 + e * pp * mkRat 1 2 = e * pp := by
      have : mkRat 1 2 + mkRat 1 2 = 1 := by decide +kernel
      rw [← Rat.mul_add, this, Rat.mul_one]
    rw [h2]
    have := Rat.mul_le_mul_of_nonneg_left hp1 (Rat.le_of_lt hpos)
    rw [Rat.mul_one] at this
    exact this
  have hT0 : 0 ≤ e * pp * mkRat 1 2 := Rat.mul_nonneg (Rat.mul_nonneg (Rat.le_of_lt hpos) hp0) (by decide +kernel)
  generalize e * pp * mkRat 1 2 = T at *
  have sg := (Rt.of (M := 19 * M + 100) (q := T) (by omega)).rsign (by omega) (by omega)
  refine Ev.turn (fun k => law05_DeltaTells.p13_succ k _ _ _ _ _ _) ?_
  unfold law05_DeltaTells.e13
  refine Ev.bind (gaps_ev hl (by omega) (by simp)) (Ev.bind hsev (Ev.fls (by simp) (Ev.bind lives_ev (Ev.fls rfl (Ev.bind hpev (Ev.bind mp (Ev.bind sg ?_)))))))
  by_cases h0 : T.num.sign = 0
  · exact Ev.tru (decide_eq_true h0) Ev.pure
  · refine Ev.fls (decide_eq_false h0) ?_
    have hTp : 0 < T := by
      rcases Rat.le_iff_lt_or_eq.1 hT0 with h | h
      · exact h
      · rw [← h] at h0; exact absurd rfl h0
    have hTr : Rt (19 * M + 100) (rat T) T := Rt.of (by omega)
    have a1 := (ha.mono (show M ≤ 19 * M + 100 by omega)).at hTr (by omega) (by omega)
    have b1 := (hb.mono (show M ≤ 19 * M + 100 by omega)).at hTr (by omega) (by omega)
    have la1 := (ha.a).LQ (by omega)
    have la2 := (ha.b).LQ (by omega)
    have lb1 := (hb.a).LQ (by omega)
    have lb2 := (hb.b).LQ (by omega)
    have m1 := LQ_mul q T
    have m2 := LQ_mul t T
    have s1' := LQ_add p (q * T)
    have s2' := LQ_add s (t * T)
    have cc := (Rt.of (M := 100 * M + 1000) (q := p + q * T) (by omega)).rcmp (Rt.of (M := 100 * M + 1000) (q := s + t * T) (by omega)) (by omega) (by omega)
    refine Ev.bind (ha.twin (by omega)) (Ev.bind a1 (Ev.bind (hb.twin (by omega)) (Ev.bind b1 (Ev.bind cc ?_))))
    have key : qs (p + q * T) (s + t * T) = x := by
      rw [hx]
      rcases dcm_cases p q s t with h | h | h
      · have hlt : p + q * T < s + t * T := by
          rcases hway with ⟨_, _, w1, w2, w3, w4⟩ | ⟨_, _, w1, w2, w3, w4⟩
          · rw [w1, w2, w3, w4] at hmin
            exact tells_lt (by omega) hTp hT hmin
          · exfalso
            rw [w1, w2, w3, w4, dcm_swap p q s t] at hle
            omega
        rw [qs_lt hlt, h]
      · obtain ⟨w1, w2⟩ := dcm_zero h
        rw [h, qs_eq (by rw [w1, w2])]
      · have hlt : s + t * T < p + q * T := by
          rcases hway with ⟨_, _, w1, w2, w3, w4⟩ | ⟨_, _, w1, w2, w3, w4⟩
          · exfalso
            rw [w1, w2, w3, w4] at hle
            omega
          · rw [w1, w2, w3, w4] at hmin
            have hsw := dcm_swap p q s t
            exact tells_lt (by omega) hTp hT hmin
        rw [qs_gt hlt, h]
    rw [key]
    simp only [decide_true]
    exact Ev.pure

theorem dtells_ev (ha : Dt M a p q) (hb : Dt M b s t) (h1 : 2 ≤ M) (hM : M ≤ 2000000) {n m : Int} (hn : 0 ≤ n ∧ n < 4294967296) (hm : 0 ≤ m ∧ m < 4294967296) : Ev (fun k => law05_DeltaTells.f k (a, b) (n, m)) true := by
  unfold law05_DeltaTells.f law05_DeltaTells.e
  refine Ev.bind (ha.twin (by omega)) (Ev.bind (hb.twin (by omega)) (Ev.bind (ha.cmp hb (by omega) (by omega)) ?_))
  by_cases h : dcm p q s t > 0
  · refine Ev.tru (decide_eq_true h) ?_
    exact tells_p13 ha hb hb ha h1 hM hn hm (by rw [dcm_swap p q s t]; omega) rfl (.inr ⟨rfl, rfl, rfl, rfl, rfl, rfl⟩)
  · refine Ev.fls (decide_eq_false h) ?_
    exact tells_p13 ha hb ha hb h1 hM hn hm (by omega) rfl (.inl ⟨rfl, rfl, rfl, rfl, rfl, rfl⟩)

abbrev tyTwo : Ty := .st (.pair tyDelta tyDelta)
abbrev tyNums : Ty := .st (.pair (.int .u32) (.int .u32))
theorem dtells_math (x : TD [tyTwo, tyNums]) (hw : wfDs (encT [tyTwo, tyNums] x)) (hm : massDs (encT [tyTwo, tyNums] x) ≤ 1048576) : ∃ k, law05_DeltaTells.f k x.1 x.2 = some true := by
  obtain ⟨h1, h2, _⟩ := hw
  have hm' : (tyDelta.mass x.1.1 + tyDelta.mass x.1.2) + ((1 + 1) + 0) ≤ 1048576 := hm
  exact (dtells_ev (delta_dt (d := x.1.1) h1.1 (M := 1048576) (by omega)) (delta_dt (d := x.1.2) h1.2 (M := 1048576) (by omega)) (by omega) (by omega) (u32_in h2.1) (u32_in h2.2)).some

end Go.FK
