
/- The plain law of Delta: Keeps, Greatest. -/
import Derived.Test.YtfalcbkhleobdaaGreatDoorM5
namespace Go.FK

theorem num_pos' {x : Rat} : 0 < x ↔ 0 < x.num := by rw [Rat.lt_iff]; simp
theorem sgn_le {x : Rat} : x.num.sign ≤ 0 ↔ ¬ 0 < x := by
  rw [num_pos']
  constructor
  · intro h h2
    rw [Int.sign_eq_one_of_pos h2] at h; omega
  · intro h
    rcases sign_cases x.num with h1 | h1 | h1
    · omega
    · omega
    · exact absurd (Int.pos_of_sign_eq_one h1) h

theorem qs_nlt {p q : Rat} (h : ¬ q < p) : qs p q ≤ 0 := by
  rcases Rat.le_iff_lt_or_eq.1 (Rat.not_lt.1 h) with h | h
  · rw [qs_lt h]; omega
  · rw [qs_eq h]; omega

theorem gmin_le (o : Rat) (g : GG) : gmin o g ≤ o := by
  unfold gmin
  split
  · exact Rat.le_refl
  · split
    · exact Rat.le_refl
    · split
      · rename_i h; exact Rat.le_of_lt h
      · exact Rat.le_refl
theorem gmin_le' (o : Rat) (g : GG) (h1 : 0 < high g) (h2 : 0 < steep g) : gmin o g ≤ high g * (steep g)⁻¹ := by
  unfold gmin
  rw [if_neg (fun h => (sgn_le.1 h) h1), if_neg (fun h => (sgn_le.1 h) h2)]
  split
  · exact Rat.le_refl
  · rename_i h; exact Rat.not_lt.1 h
theorem gmin_or (o : Rat) (g : GG) : gmin o g = o ∨ (0 < high g ∧ 0 < steep g ∧ gmin o g = high g * (steep g)⁻¹) := by
  unfold gmin
  by_cases c1 : (high g).num.sign ≤ 0
  · rw [if_pos c1]; exact Or.inl rfl
  by_cases c2 : (steep g).num.sign ≤ 0
  · rw [if_neg c1, if_pos c2]; exact Or.inl rfl
  rw [if_neg c1, if_neg c2]
  have h1 : 0 < high g := Decidable.byContradiction fun h => c1 (sgn_le.2 h)
  have h2 : 0 < steep g := Decidable.byContradiction fun h => c2 (sgn_le.2 h)
  split
  · exact Or.inr ⟨h1, h2, rfl⟩
  · exact Or.inl rfl

theorem least_le : ∀ (l : List GG) (o : Rat), l.foldl gmin o ≤ o ∧ ∀ g ∈ l, 0 < high g → 0 < steep g → l.foldl gmin o ≤ high g * (steep g)⁻¹
  | [], _ => ⟨Rat.le_refl, fun _ h => nomatch h⟩
  | x :: l, o => by
    have ih := least_le l (gmin o x)
    refine ⟨Rat.le_trans ih.1 (gmin_le o x), fun g hg h1 h2 => ?_⟩
    rcases List.mem_cons.1 hg with h | h
    · subst h; exact Rat.le_trans ih.1 (gmin_le' o _ h1 h2)
    · exact ih.2 g h h1 h2
theorem quot_pos {x y : Rat} (h1 : 0 < x) (h2 : 0 < y) : 0 < x * y⁻¹ := Rat.mul_pos h1 (Rat.inv_pos.2 h2)
theorem least_pos : ∀ (l : List GG) (o : Rat), 0 < o → 0 < l.foldl gmin o
  | [], _, h => h
  | x :: l, o, h => by
    refine least_pos l (gmin o x) ?_
    rcases gmin_or o x with h1 | ⟨h1, h2, h3⟩
    · rw [h1]; exact h
    · rw [h3]; exact quot_pos h1 h2
theorem least_or : ∀ (l : List GG) (o : Rat), l.foldl gmin o = o ∨ ∃ g ∈ l, 0 < high g ∧ 0 < steep g ∧ l.foldl gmin o = high g * (steep g)⁻¹
  | [], _ => Or.inl rfl
  | x :: l, o => by
    rcases least_or l (gmin o x) with h | ⟨g, hg, h⟩
    · rcases gmin_or o x with h1 | ⟨h1, h2, h3⟩
      · left; rw [List.foldl_cons, h, h1]
      · right; exact ⟨x, List.mem_cons_self, h1, h2, by rw [List.foldl_cons, h, h3]⟩
    · right; exact ⟨g, List.mem_cons_of_mem _ hg, h⟩

theorem quot_mul {x y : Rat} (h : 0 < y) : x * y⁻¹ * y = x := by
  rw [Rat.mul_assoc, Rat.inv_mul_cancel y (fun h0 => by rw [h0] at h; exact absurd h (by decide)), Rat.mul_one]

theorem keeps_gap {g : GG} {t : Rat} (hb : gbad g = false) (h0 : 0 ≤ t) (ht : 0 < high g → 0 < steep g → t ≤ high g * (steep g)⁻¹) : ¬ Qv g.2.1 + Qv g.2.2 * t < Qv g.1.1 + Qv g.1.2 * t := by
  unfold gbad at hb
  have hb := of_decide_eq_false hb
  unfold dcm at hb
  unfold high steep at ht
  generalize Qv g.1.1 = a at *
  generalize Qv g.1.2 = b at *
  generalize Qv g.2.1 = c at *
  generalize Qv g.2.2 = d at *
  have mono : b ≤ d → b * t ≤ d * t := fun h => Rat.mul_le_mul_of_nonneg_right h h0
  by_cases e : qs a c = 0
  · rw [if_pos e] at hb
    have e2 : a = c := qs_zero.1 e
    have h1 : b ≤ d := Rat.not_lt.1 fun h => by rw [qs_gt h] at hb; omega
    have := mono h1
    grind
  · rw [if_neg e] at hb
    have h1 : a ≤ c := Rat.not_lt.1 fun h => by rw [qs_gt h] at hb; omega
    have h2 : a ≠ c := fun h => e (qs_eq h)
    have h3 : a < c := Rat.not_le.1 fun h => h2 (Rat.le_antisymm h1 h)
    by_cases h4 : 0 < b - d
    · have h5 := ht (by grind) h4
      have h6 : t * (b - d) ≤ (c - a) * (b - d)⁻¹ * (b - d) := Rat.mul_le_mul_of_nonneg_right h5 (Rat.le_of_lt h4)
      rw [quot_mul h4] at h6
      grind
    · have := mono (by grind)
      grind

theorem greatest_gap {g : GG} {t : Rat} (_h1 : 0 < high g) (h2 : 0 < steep g) (ht : high g * (steep g)⁻¹ < t) : Qv g.2.1 + Qv g.2.2 * t < Qv g.1.1 + Qv g.1.2 * t := by
  have h6 : high g * (steep g)⁻¹ * steep g < t * steep g := Rat.mul_lt_mul_of_pos_right ht h2
  rw [quot_mul h2] at h6
  unfold high steep at h6
  generalize Qv g.1.1 = a at *
  generalize Qv g.1.2 = b at *
  generalize Qv g.2.1 = c at *
  generalize Qv g.2.2 = d at *
  grind

section
variable {M : Nat} {l : List GG}
/-! ### The given part of an amount -/
theorem part_ev {r : RR} {e : Rat} (hr : Rt M r e) (h1 : 2 ≤ M) (hM : M ≤ 1000000000) {n m : Int} (hn : 0 ≤ n ∧ n < 4294967296) (hm : 0 ≤ m ∧ m < 4294967296) : ∃ p : Rat, 0 ≤ p ∧ p ≤ 1 ∧ LQ p ≤ 4 ∧ Ev (fun k => law05_part.f k r n m) (rat (e * p)) := by
  have w1 : IntKind.u64.wrap (IntKind.u64.wrap m + 1) = m + 1 := by rw [wrap_u64, wrap_u64]; omega
  have w2 : IntKind.u64.wrap (m + 1 + 1) = m + 2 := by rw [wrap_u64]; omega
  have w3 : IntKind.u64.wrap n = n := by rw [wrap_u64]; omega
  have w4 : Int.tmod n (m + 2) = n % (m + 2) := Int.tmod_eq_emod_of_nonneg hn.1
  obtain ⟨v, hv⟩ : ∃ v : Int, n % (m + 2) = v := ⟨_, rfl⟩
  have v0 : 0 ≤ v := by rw [← hv]; exact Int.emod_nonneg _ (by omega)
  have v1 : v < m + 2 := by rw [← hv]; exact Int.emod_lt_of_pos _ (by omega)
  have f1 : IntKind.u32.wrap v = v % 4294967296 := wrap_u32 v
  have f2 : IntKind.u32.wrap (Int.fdiv v (2 ^ 32)) = v / 4294967296 := by
    rw [Int.fdiv_eq_ediv_of_nonneg _ (by omega), wrap_u32]; omega
  have g1 : IntKind.u32.wrap (m + 1) = (m + 1) % 4294967296 := wrap_u32 _
  have g2 : IntKind.u32.wrap (Int.fdiv (m + 1) (2 ^ 32)) = (m + 1) / 4294967296 := by
    rw [Int.fdiv_eq_ediv_of_nonneg _ (by omega), wrap_u32]; omega
  have n1 : Nt 2 [v % 4294967296, v / 4294967296] v.toNat := ⟨Lim.mk (by simp only [B]; omega) (Lim.mk (by simp only [B]; omega) Lim.nil), by simp only [V, B]; omega, by simp⟩
  have n2 : Nt 2 [(m + 1) % 4294967296, (m + 1) / 4294967296] (m + 1).toNat := ⟨Lim.mk (by simp only [B]; omega) (Lim.mk (by simp only [B]; omega) Lim.nil), by simp only [V, B]; omega, by simp⟩
  have hp := Rt.mk2 (Zt.pos n1) n2
  refine ⟨mkRat (v.toNat : Int) (m + 1).toNat, ?_, ?_, hp.LQ (by omega), ?_⟩
  · rw [← Rat.divInt_ofNat]; exact (Rat.divInt_nonneg_iff_of_pos_right (by omega)).2 (by omega)
  · have e1 : (1 : Rat) = Rat.divInt 1 1 := by decide +kernel
    rw [← Rat.divInt_ofNat, e1, Rat.le_iff_sub_nonneg, Rat.divInt_sub_divInt _ _ (by omega) (by omega)]
    exact (Rat.divInt_nonneg_iff_of_pos_right (by omega)).2 (by omega)
  · unfold law05_part.f law05_part.e
    rw [w1, w2, w3, w4, hv, f1, f2, g1, g2]
    have hne : decide (m + 2 = 0) = false := decide_eq_false (by omega)
    exact Ev.fls hne (Ev.fls hne (Ev.bind (hr.rmul (hp.mono (by omega)) (by omega) (by omega)) Ev.pure))

/-! ### Keeps -/
theorem keeps_p4 (hl : Gs M l) (h1 : 2 ≤ M) (hM : M ≤ 2000000) (hlen : l.length ≤ 1000000000) {t : Rat} (ht : LQ t ≤ 25 * M) (hk : ∀ g ∈ l, ¬ Qv g.2.1 + Qv g.2.2 * t < Qv g.1.1 + Qv g.1.2 * t) : ∀ (m i : Nat), m + i = l.length → Ev (fun k => law05_DeltaKeeps.p4 k (rat t) l (i : Int)) true := by
  intro m
  induction m with
  | zero =>
    intro i hi
    refine Ev.turn (fun k => law05_DeltaKeeps.p4_succ k _ _ _) ?_
    unfold law05_DeltaKeeps.e4
    exact Ev.fls (by simp; omega) Ev.pure
  | succ m ih =>
    intro i hi
    refine Ev.turn (fun k => law05_DeltaKeeps.p4_succ k _ _ _) ?_
    unfold law05_DeltaKeeps.e4
    have e : IntKind.i64.wrap ((i : Int) + 1) = ((i + 1 : Nat) : Int) := by rw [wrap_i64 (by omega) (by omega)]; omega
    simp only [e, Int.toNat_natCast]
    have h := hl.get (i := i) (by omega)
    have hm : nthD gd l i ∈ l := by rw [nthD_at gd (by omega)]; exact List.getElem_mem _
    have hn := hk _ hm
    generalize nthD gd l i = g at *
    have hb : (decide (0 ≤ (i : Int)) && decide ((i : Int) < (l.length : Int))) = true := by simp; omega
    have lo := h.lo.mono (M' := 25 * M) (by omega)
    have hi' := h.hi.mono (M' := 25 * M) (by omega)
    have hr : Rt (25 * M) (rat t) t := Rt.of ht
    have a1 := lo.a.LQ (by omega)
    have a2 := lo.b.LQ (by omega)
    have a3 := hi'.a.LQ (by omega)
    have a4 := hi'.b.LQ (by omega)
    have l1 := LQ_mul (Qv g.1.2) t
    have l2 := LQ_mul (Qv g.2.2) t
    have l3 := LQ_add (Qv g.1.1) (Qv g.1.2 * t)
    have l4 := LQ_add (Qv g.2.1) (Qv g.2.2 * t)
    have r1 : Rt (400 * M) (rat (Qv g.1.1 + Qv g.1.2 * t)) (Qv g.1.1 + Qv g.1.2 * t) := Rt.of (by omega)
    have r2 : Rt (400 * M) (rat (Qv g.2.1 + Qv g.2.2 * t)) (Qv g.2.1 + Qv g.2.2 * t) := Rt.of (by omega)
    refine Ev.tru (by simp; omega) (Ev.tru hb (Ev.bind (lo.rat hr (by omega) (by omega)) (Ev.tru hb (Ev.bind (hi'.rat hr (by omega) (by omega)) (Ev.bind (r1.rcmp r2 (by omega) (by omega)) (Ev.fls (decide_eq_false ?_) (ih (i + 1) (by omega))))))))
    have := qs_nlt hn
    omega

theorem keeps_p0 (hl : Gs M l) (h1 : 2 ≤ M) (hM : M ≤ 2000000) (hlen : l.length ≤ 1000000000) {n m : Int} (hn : 0 ≤ n ∧ n < 4294967296) (hm : 0 ≤ m ∧ m < 4294967296) : ∀ (j i : Nat), j + i = l.length → (∀ g ∈ l.take i, gbad g = false) → Ev (fun k => law05_DeltaKeeps.p0 k (small l).1 l n m (small l).2 (i : Int)) true := by
  intro j
  induction j with
  | zero =>
    intro i hi hk
    refine Ev.turn (fun k => law05_DeltaKeeps.p0_succ k _ _ _ _ _ _) ?_
    unfold law05_DeltaKeeps.e0
    rw [List.take_of_length_le (by omega)] at hk
    have hany : l.any gbad = false := by rw [List.any_eq_false]; intro x hx; rw [hk x hx]; simp
    have hs : small l = (rat (l.foldl gmin 1), 0) := by unfold small; rw [if_neg (by rw [hany]; simp)]
    rw [hs]
    have hp := least_pos l 1 (by decide)
    have hle := least_le l 1
    have hL := foldl_LQ (by omega) hl (LQ_one' (M := M) (by omega))
    generalize l.foldl gmin 1 = e at *
    have re : Rt (19 * M) (rat e) e := Rt.of hL
    have ro : Rt (19 * M) (rat ((1 : Int) : Rat)) ((1 : Int) : Rat) := Rt.of (LQ_one' (by omega))
    obtain ⟨p, p0, p1, pL, hpart⟩ := part_ev re (by omega) (by omega) hn hm
    refine Ev.fls (by simp; omega) (Ev.fls (by simp) (Ev.bind (re.rsign (by omega) (by omega)) (Ev.fls (decide_eq_false fun h => (sgn_le.1 h) hp) ?_)))
    refine Ev.bind (ref03_Whole_ev (n := 1) (by omega)) (Ev.bind (re.rcmp ro (by omega) (by omega)) (Ev.fls (decide_eq_false ?_) (Ev.bind hpart ?_)))
    · have h2 : e ≤ ((1 : Int) : Rat) := hle.1
      have := qs_nlt (Rat.not_lt.2 h2)
      omega
    have l1 := LQ_mul e p
    have c1 : 0 ≤ e * p := Rat.mul_nonneg (Rat.le_of_lt hp) p0
    have c2 : e * p ≤ e := by
      have := Rat.mul_le_mul_of_nonneg_left p1 (Rat.le_of_lt hp)
      rwa [Rat.mul_one] at this
    exact keeps_p4 hl h1 hM hlen (t := e * p) (by omega) (fun g hg => keeps_gap (hk g hg) c1 fun h1 h2 => Rat.le_trans c2 (hle.2 g hg h1 h2)) l.length 0 (by omega)
  | succ j ih =>
    intro i hi hk
    refine Ev.turn (fun k => law05_DeltaKeeps.p0_succ k _ _ _ _ _ _) ?_
    unfold law05_DeltaKeeps.e0
    have e : IntKind.i64.wrap ((i : Int) + 1) = ((i + 1 : Nat) : Int) := by rw [wrap_i64 (by omega) (by omega)]; omega
    simp only [e, Int.toNat_natCast]
    have h := hl.get (i := i) (by omega)
    have hin : nthD gd l i ∈ l := by rw [nthD_at gd (by omega)]; exact List.getElem_mem _
    have ht : l.take (i + 1) = l.take i ++ [nthD gd l i] := by
      rw [List.take_succ_eq_append_getElem (by omega), nthD_at gd (by omega)]
    have ih' := ih (i + 1) (by omega)
    generalize nthD gd l i = g at *
    have hb : (decide (0 ≤ (i : Int)) && decide ((i : Int) < (l.length : Int))) = true := by simp; omega
    refine Ev.tru (by simp; omega) (Ev.tru hb (Ev.tru hb (Ev.bind (h.lo.rcmp h.hi (by omega) (by omega)) ?_)))
    by_cases hg : gbad g = true
    · have hany : l.any gbad = true := List.any_eq_true.2 ⟨g, hin, hg⟩
      have hs : small l = (noRat, 51) := by unfold small; rw [if_pos hany]
      rw [hs]
      exact Ev.tru (by unfold gbad at hg; simpa using hg) (Ev.eq (by decide))
    · rw [Bool.not_eq_true] at hg
      refine Ev.fls (by unfold gbad at hg; simpa using hg) (ih' fun x hx => ?_)
      rw [ht, List.mem_append] at hx
      rcases hx with hx | hx
      · exact hk x hx
      · rw [List.mem_singleton] at hx; rw [hx]; exact hg

theorem dkeeps_ev (hl : Gs M l) (h1 : 2 ≤ M) (hM : M ≤ 2000000) (hlen : l.length ≤ 1000000000) {n m : Int} (hn : 0 ≤ n ∧ n < 4294967296) (hm : 0 ≤ m ∧ m < 4294967296) : Ev (fun k => law05_DeltaKeeps.f k l n m) true := by
  unfold law05_DeltaKeeps.f law05_DeltaKeeps.e
  exact Ev.bind (gaps_ev hl (by omega) hlen) (Ev.bind (small_ev hl (by omega) (by omega) hlen) (Ev.bind lives_ev (Ev.fls rfl (keeps_p0 hl h1 hM hlen hn hm l.length 0 (by omega) (by simp)))))

/-! ### Greatest -/
theorem greatest_p0 (hl : Gs M l) (h1 : 2 ≤ M) (hM : M ≤ 2000000) (hlen : l.length ≤ 1000000000) {t : Rat} (ht : LQ t ≤ 100 * M) : ∀ (m i : Nat), m + i = l.length → (∃ g ∈ l.drop i, Qv g.2.1 + Qv g.2.2 * t < Qv g.1.1 + Qv g.1.2 * t) → Ev (fun k => law05_DeltaGreatest.p0 k (rat t) l (i : Int)) true := by
  intro m
  induction m with
  | zero =>
    intro i hi hex
    rw [List.drop_eq_nil_of_le (by omega)] at hex
    obtain ⟨g, hg, _⟩ := hex
    exact absurd hg (by simp)
  | succ m ih =>
    intro i hi hex
    refine Ev.turn (fun k => law05_DeltaGreatest.p0_succ k _ _ _) ?_
    unfold law05_DeltaGreatest.e0
    have e : IntKind.i64.wrap ((i : Int) + 1) = ((i + 1 : Nat) : Int) := by rw [wrap_i64 (by omega) (by omega)]; omega
    simp only [e, Int.toNat_natCast]
    have h := hl.get (i := i) (by omega)
    rw [drop_consD gd (by omega)] at hex
    have ih' := ih (i + 1) (by omega)
    generalize nthD gd l i = g at *
    have hb : (decide (0 ≤ (i : Int)) && decide ((i : Int) < (l.length : Int))) = true := by simp; omega
    have lo := h.lo.mono (M' := 100 * M) (by omega)
    have hi' := h.hi.mono (M' := 100 * M) (by omega)
    have hr : Rt (100 * M) (rat t) t := Rt.of ht
    have a1 := lo.a.LQ (by omega)
    have a2 := lo.b.LQ (by omega)
    have a3 := hi'.a.LQ (by omega)
    have a4 := hi'.b.LQ (by omega)
    have l1 := LQ_mul (Qv g.1.2) t
    have l2 := LQ_mul (Qv g.2.2) t
    have l3 := LQ_add (Qv g.1.1) (Qv g.1.2 * t)
    have l4 := LQ_add (Qv g.2.1) (Qv g.2.2 * t)
    have r1 : Rt (2000 * M) (rat (Qv g.1.1 + Qv g.1.2 * t)) (Qv g.1.1 + Qv g.1.2 * t) := Rt.of (by omega)
    have r2 : Rt (2000 * M) (rat (Qv g.2.1 + Qv g.2.2 * t)) (Qv g.2.1 + Qv g.2.2 * t) := Rt.of (by omega)
    refine Ev.tru (by simp; omega) (Ev.tru hb (Ev.bind (lo.rat hr (by omega) (by omega)) (Ev.tru hb (Ev.bind (hi'.rat hr (by omega) (by omega)) (Ev.bind (r1.rcmp r2 (by omega) (by omega)) ?_)))))
    by_cases c : Qv g.2.1 + Qv g.2.2 * t < Qv g.1.1 + Qv g.1.2 * t
    · exact Ev.tru (decide_eq_true (by rw [qs_gt c]; decide)) Ev.pure
    · have := qs_nlt c
      refine Ev.fls (decide_eq_false (by omega)) (ih' ?_)
      obtain ⟨x, hx, hx2⟩ := hex
      rcases List.mem_cons.1 hx with h | h
      · subst h; exact absurd hx2 c
      · exact ⟨x, h, hx2⟩

theorem dgreatest_ev (hl : Gs M l) (h1 : 2 ≤ M) (hM : M ≤ 2000000) (hlen : l.length ≤ 1000000000) {r : RR} {q : Rat} (hr : Rt M r q) : Ev (fun k => law05_DeltaGreatest.f k l r) true := by
  have p11 : ∀ b : Int, b = 0 ∨ b = 51 → Ev (fun k => law05_DeltaGreatest.p11 k b) true := fun b hb => by
    refine Ev.turn (fun k => law05_DeltaGreatest.p11_succ k _) ?_
    unfold law05_DeltaGreatest.e11
    rcases hb with h | h
    · exact Ev.tru (decide_eq_true h) Ev.pure
    · exact Ev.fls (decide_eq_false (by omega)) (Ev.eq (by rw [h]; decide))
  unfold law05_DeltaGreatest.f law05_DeltaGreatest.e
  refine Ev.bind (gaps_ev hl (by omega) hlen) (Ev.bind (small_ev hl (by omega) (by omega) hlen) (Ev.bind lives_ev (Ev.fls rfl ?_)))
  unfold small
  by_cases hb : l.any gbad = true
  · rw [if_pos hb]
    exact Ev.tru (by simp) (p11 51 (by omega))
  rw [if_neg hb]
  have hL := foldl_LQ (by omega) hl (LQ_one' (M := M) (by omega))
  have hor := least_or l 1
  generalize l.foldl gmin 1 = e at *
  refine Ev.fls (by simp) (Ev.bind (hr.rsign (by omega) (by omega)) ?_)
  by_cases c : q.num.sign ≤ 0
  · exact Ev.tru (decide_eq_true c) (p11 0 (by omega))
  have hq : 0 < q := Decidable.byContradiction fun h => c (sgn_le.2 h)
  have lq := hr.LQ (by omega)
  have l1 := LQ_add e q
  have re : Rt (19 * M) (rat e) e := Rt.of hL
  have rt : Rt (100 * M) (rat (e + q)) (e + q) := Rt.of (by omega)
  have ro : Rt (100 * M) (rat ((1 : Int) : Rat)) ((1 : Int) : Rat) := Rt.of (Nat.le_trans (LQ_one' (M := M) (by omega)) (by omega))
  refine Ev.fls (decide_eq_false c) (Ev.bind (re.radd (hr.mono (by omega)) (by omega) (by omega)) (Ev.bind (ref03_Whole_ev (n := 1) (by omega)) (Ev.bind (rt.rcmp ro (by omega) (by omega)) ?_)))
  by_cases c2 : ((1 : Int) : Rat) < e + q
  · exact Ev.tru (decide_eq_true (by rw [qs_gt c2]; decide)) Ev.pure
  have := qs_nlt c2
  refine Ev.fls (decide_eq_false (by omega)) (greatest_p0 hl h1 hM hlen (t := e + q) (by omega) l.length 0 (by omega) ?_)
  rcases hor with h | ⟨g, hg, g1, g2, g3⟩
  · rw [h] at c2
    exact absurd (show ((1 : Int) : Rat) < 1 + q by rw [Rat.intCast_one]; grind) c2
  · exact ⟨g, hg, greatest_gap g1 g2 (by rw [← g3]; grind)⟩
end

theorem u32_in {n : Int} (h : (Ty.int IntKind.u32).wf n) : 0 ≤ n ∧ n < 4294967296 := by
  have h3 : IntKind.u32.min ≤ n ∧ n ≤ IntKind.u32.max := h
  have e1 : IntKind.u32.min = 0 := by decide
  have e2 : IntKind.u32.max = 4294967295 := by decide
  rw [e1, e2] at h3
  omega
theorem dkeeps_math (x : TD [.list tyGap, .int .u32, .int .u32]) (hw : wfDs (encT [.list tyGap, .int .u32, .int .u32] x)) (hm : massDs (encT [.list tyGap, .int .u32, .int .u32] x) ≤ 1048576) : ∃ k, law05_DeltaKeeps.f k x.1 x.2.1 x.2.2 = some true := by
  obtain ⟨h1, h2, h3, _⟩ := hw
  have hw' : ∀ y ∈ (x.1 : List GG), tyGap.wf y := h1.2
  have hm' : (((x.1 : List GG).map tyGap.mass).sum + 1) + (1 + (1 + 0)) ≤ 1048576 := hm
  have h := gaps_in hw' (by omega)
  exact (dkeeps_ev (M := 1048576) h.1 (by omega) (by omega) (by omega) (u32_in h2) (u32_in h3)).some
theorem dgreatest_math (x : TD [.list tyGap, tyRat]) (hw : wfDs (encT [.list tyGap, tyRat] x)) (hm : massDs (encT [.list tyGap, tyRat] x) ≤ 1048576) : ∃ k, law05_DeltaGreatest.f k x.1 x.2 = some true := by
  obtain ⟨h1, h2, _⟩ := hw
  have hw' : ∀ y ∈ (x.1 : List GG), tyGap.wf y := h1.2
  have hm' : (((x.1 : List GG).map tyGap.mass).sum + 1) + (tyRat.mass x.2 + 0) ≤ 1048576 := hm
  have h := gaps_in hw' (by omega)
  exact (dgreatest_ev (M := 1048576) h.1 (by omega) (by omega) (by omega) (rat_rt (r := x.2) h2 (by omega))).some

end Go.FK
