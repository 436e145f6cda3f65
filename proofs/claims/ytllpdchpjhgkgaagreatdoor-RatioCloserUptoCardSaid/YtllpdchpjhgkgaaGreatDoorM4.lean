import Derived.Test.YtllpdchpjhgkgaaGreatDoorM3

/- The plain law: the nearest number up to a denominator: the mathematics. -/
namespace Go.FK
/-- u is nearer to q than v; of two alike near ones that with the lesser denominator, then the lower one. -/
def Near (q u v : Rat) : Prop := (q - u).abs < (q - v).abs ∨ ((q - u).abs = (q - v).abs ∧ (u.den < v.den ∨ (u.den = v.den ∧ u < v)))
instance (q u v : Rat) : Decidable (Near q u v) := by unfold Near; infer_instance
theorem near_irr (q u : Rat) : ¬ Near q u u := by
  rintro (h | ⟨_, h | ⟨_, h⟩⟩)
  · exact Rat.lt_irrefl h
  · omega
  · exact Rat.lt_irrefl h
theorem near_asymm {q u v : Rat} (h : Near q u v) : ¬ Near q v u := by
  rintro (h2 | ⟨e2, h2 | ⟨d2, h2⟩⟩) <;> rcases h with h | ⟨e, h | ⟨d, h⟩⟩
  all_goals first
    | omega
    | grind
def pickN (q a b : Rat) : Rat := if Near q b a then b else a
theorem pick_min (q a b : Rat) : ¬ Near q a (pickN q a b) ∧ ¬ Near q b (pickN q a b) := by
  unfold pickN
  split
  · rename_i h
    exact ⟨near_asymm h, near_irr _ _⟩
  · rename_i h
    exact ⟨near_irr _ _, h⟩
theorem out_best {q lo hi n c : Rat} (h1 : lo < q) (h2 : q < hi) (hn : n ≤ lo ∨ hi ≤ n) (hl : ¬ Near q lo c) (hh : ¬ Near q hi c) : ¬ Near q n c := by
  have a1 : (q - lo).abs = q - lo := Rat.abs_of_nonneg (by grind)
  have a2 : (q - hi).abs = hi - q := by rw [Rat.abs_of_nonpos (by grind)]; grind
  have b1 : (q - c).abs ≤ q - lo := by
    rw [← a1]
    exact Rat.not_lt.1 fun h => hl (.inl h)
  have b2 : (q - c).abs ≤ hi - q := by
    rw [← a2]
    exact Rat.not_lt.1 fun h => hh (.inl h)
  intro hc
  have hle : (q - n).abs ≤ (q - c).abs := by
    rcases hc with h | h
    · exact Rat.le_of_lt h
    · rw [h.1]; exact Rat.le_refl
  rcases hn with hn | hn
  · by_cases e : n = lo
    · rw [e] at hc; exact hl hc
    · have a3 : (q - n).abs = q - n := Rat.abs_of_nonneg (by grind)
      rw [a3] at hle
      exact e (by grind)
  · by_cases e : n = hi
    · rw [e] at hc; exact hh hc
    · have a3 : (q - n).abs = n - q := by rw [Rat.abs_of_nonpos (by grind)]; grind
      rw [a3] at hle
      exact e (by grind)

/-! ### Convergents -/
/-- q from a convergent, the one ahead of it, and what is left. -/
structure Cv (q x : Rat) (h0 : Int) (k0 : Nat) (h1 : Int) (k1 : Nat) : Prop where
  num : q.num = x.num * h1 + x.den * h0
  den : (q.den : Int) = x.num * k1 + x.den * k0
  det : h1 * k0 - h0 * k1 = 1 ∨ h1 * k0 - h0 * k1 = -1
  one : 1 ≤ x
  kpos : 1 ≤ k1
  kk : k0 ≤ k1

theorem num_split (x : Rat) : x.num = qfloor x * x.den + x.num % x.den := by
  have := Int.mul_ediv_add_emod x.num x.den
  unfold qfloor
  rw [Int.mul_comm] at this
  omega
theorem Cv.first {q : Rat} (h : fr q ≠ 0) : Cv q (fr q)⁻¹ 1 0 (qfloor q) 1 := by
  have hp := next_parts h
  have hs := num_split q
  refine ⟨?_, ?_, ?_, one_le_next h, Nat.le_refl _, Nat.zero_le _⟩
  · rw [hp.1, hp.2, Int.mul_one, Int.mul_comm]; exact hs
  · rw [hp.1]; simp
  · right; simp
theorem floor_nat {x : Rat} (h : 1 ≤ x) : ((qfloor x).natAbs : Int) = qfloor x := by have := one_le_floor h; omega
theorem Cv.step {q x : Rat} {h0 h1 : Int} {k0 k1 : Nat} (h : Cv q x h0 k0 h1 k1) (hf : fr x ≠ 0) : Cv q (fr x)⁻¹ h1 k1 (qfloor x * h1 + h0) ((qfloor x).natAbs * k1 + k0) := by
  have hp := next_parts hf
  have hs := num_split x
  have hn := floor_nat h.one
  have hf1 := one_le_floor h.one
  have hk : k1 ≤ (qfloor x).natAbs * k1 := Nat.le_mul_of_pos_left _ (by omega)
  have e1 := h.num
  have e2 := h.den
  have kpos := h.kpos
  refine ⟨?_, ?_, ?_, one_le_next hf, by omega, by omega⟩
  · rw [hp.1, hp.2]
    grind
  · rw [hp.1, hp.2, Int.natCast_add, Int.natCast_mul, hn]
    grind
  · rw [Int.natCast_add, Int.natCast_mul, hn]
    rcases h.det with d | d
    · right; grind
    · left; grind
theorem Cv.last {q x : Rat} {h0 h1 : Int} {k0 k1 : Nat} (h : Cv q x h0 k0 h1 k1) (hf : fr x = 0) : q.den = (qfloor x).natAbs * k1 + k0 := by
  have e := of_fr_zero hf
  have hn := floor_nat h.one
  have e1 : x.num = qfloor x := by
    have := congrArg Rat.num e
    rw [Rat.num_intCast] at this
    exact this.symm
  have e2 : x.den = 1 := by
    have := congrArg Rat.den e
    rw [Rat.den_intCast] at this
    exact this.symm
  have := h.den
  rw [e1, e2] at this
  have : (q.den : Int) = (((qfloor x).natAbs * k1 + k0 : Nat) : Int) := by
    rw [Int.natCast_add, Int.natCast_mul, hn, this]; simp
  omega
theorem one_num {x : Rat} (h : 1 ≤ x) : (x.den : Int) ≤ x.num := by
  have := (Rat.le_iff 1 x).1 h
  simpa using this
theorem le_of_mul {a b c d : Int} (hd : 0 < d) (h : a * d ≤ b * d + c) (hc : c ≤ d) : a ≤ b + 1 := by
  have : a * d ≤ (b + 1) * d := by rw [Int.add_mul]; omega
  exact Int.le_of_mul_le_mul_right this hd
theorem Cv.sizes {q x : Rat} {h0 h1 : Int} {k0 k1 : Nat} (h : Cv q x h0 k0 h1 k1) : h1.natAbs ≤ q.num.natAbs + 1 ∧ h0.natAbs ≤ q.num.natAbs + 1 ∧ k1 ≤ q.den ∧ k0 ≤ q.den := by
  have hd := den_pos x
  have hD := den_pos q
  have ho := one_num h.one
  have e1 := h.num
  have e2 := h.den
  have kk := h.kk
  have kp := h.kpos
  have a1 : (1 : Int) * k1 ≤ x.num * k1 := Int.mul_le_mul_of_nonneg_right (by omega) (by omega)
  have a2 : (0 : Int) ≤ x.den * k0 := Int.mul_nonneg (by omega) (by omega)
  have hk1 : (k1 : Int) ≤ q.den := by omega
  have a3 : x.num * 1 ≤ x.num * k1 := Int.mul_le_mul_of_nonneg_left (by omega) (by omega)
  have hP : x.num ≤ q.den := by omega
  have E1 : h1 * q.den - q.num * k1 = x.den * (h1 * k0 - h0 * k1) := by grind
  have E0 : h0 * q.den - q.num * k0 = -(x.num * (h1 * k0 - h0 * k1)) := by grind
  have n1 : (q.num.natAbs : Int) * k1 ≤ q.num.natAbs * q.den := Int.mul_le_mul_of_nonneg_left hk1 (by omega)
  have n0 : (q.num.natAbs : Int) * k0 ≤ q.num.natAbs * q.den := Int.mul_le_mul_of_nonneg_left (by omega) (by omega)
  have c1 : q.num * k1 ≤ q.num.natAbs * k1 := Int.mul_le_mul_of_nonneg_right (by omega) (by omega)
  have c2 : -(q.num * k1) ≤ q.num.natAbs * k1 := by rw [← Int.neg_mul]; exact Int.mul_le_mul_of_nonneg_right (by omega) (by omega)
  have c3 : q.num * k0 ≤ q.num.natAbs * k0 := Int.mul_le_mul_of_nonneg_right (by omega) (by omega)
  have c4 : -(q.num * k0) ≤ q.num.natAbs * k0 := by rw [← Int.neg_mul]; exact Int.mul_le_mul_of_nonneg_right (by omega) (by omega)
  refine ⟨?_, ?_, by omega, by omega⟩
  · have u1 : h1 ≤ q.num.natAbs + 1 := le_of_mul (c := q.den) hD (by rcases h.det with d | d <;> rw [d] at E1 <;> omega) (Int.le_refl _)
    have u2 : -h1 ≤ q.num.natAbs + 1 := le_of_mul (c := q.den) hD (by rw [Int.neg_mul]; rcases h.det with d | d <;> rw [d] at E1 <;> omega) (Int.le_refl _)
    omega
  · have u1 : h0 ≤ q.num.natAbs + 1 := le_of_mul (c := q.den) hD (by rcases h.det with d | d <;> rw [d] at E0 <;> omega) (Int.le_refl _)
    have u2 : -h0 ≤ q.num.natAbs + 1 := le_of_mul (c := q.den) hD (by rw [Int.neg_mul]; rcases h.det with d | d <;> rw [d] at E0 <;> omega) (Int.le_refl _)
    omega

theorem mkRat_det {z u : Int} {d v : Nat} (hd : d ≠ 0) (h : z * v - u * d = 1 ∨ z * v - u * d = -1) : (mkRat z d).num = z ∧ (mkRat z d).den = d := by
  have hg1 : ((Nat.gcd z.natAbs d : Nat) : Int) ∣ z := Int.ofNat_dvd_left.2 (Nat.gcd_dvd_left _ _)
  have hg2 : ((Nat.gcd z.natAbs d : Nat) : Int) ∣ d := Int.natCast_dvd_natCast.2 (Nat.gcd_dvd_right _ _)
  have hg3 : ((Nat.gcd z.natAbs d : Nat) : Int) ∣ z * v - u * d := Int.dvd_sub (Int.dvd_mul_of_dvd_left hg1) (Int.dvd_mul_of_dvd_right hg2)
  have hg4 : ((Nat.gcd z.natAbs d : Nat) : Int) ∣ 1 := by
    rcases h with h | h
    · rwa [h] at hg3
    · rw [h] at hg3
      exact Int.dvd_neg.1 hg3
  have hc : z.natAbs.Coprime d := by
    have := Int.eq_one_of_dvd_one (by omega) hg4
    show Nat.gcd z.natAbs d = 1
    omega
  rw [← Rat.mk_eq_mkRat z d hd hc]
  exact ⟨rfl, rfl⟩

/-- The two candidates at the end. -/
def candA (h1 : Int) (k1 : Nat) : Rat := mkRat h1 k1
def candB (most : Nat) (h0 : Int) (k0 : Nat) (h1 : Int) (k1 : Nat) : Rat := mkRat (h0 + ((most - k0) / k1 : Nat) * h1) (k0 + (most - k0) / k1 * k1)

theorem Cv.best {q x : Rat} {h0 h1 : Int} {k0 k1 : Nat} (h : Cv q x h0 k0 h1 k1) {most : Nat} (hm : k1 ≤ most) (hs : most < (qfloor x).natAbs * k1 + k0) :
    k0 + (most - k0) / k1 * k1 ≠ 0 ∧ (∀ n : Rat, n.den ≤ most → ¬ Near q n (pickN q (candA h1 k1) (candB most h0 k0 h1 k1))) ∧ (pickN q (candA h1 k1) (candB most h0 k0 h1 k1)).den ≤ most := by
  have kp := h.kpos
  have kk := h.kk
  have hn := floor_nat h.one
  have hsp := num_split x
  have hd := den_pos x
  have hem := Int.emod_nonneg x.num (by omega : (x.den : Int) ≠ 0)
  unfold candA candB
  generalize ht : (most - k0) / k1 = t
  have t1 : t * k1 ≤ most - k0 := by rw [← ht]; exact Nat.div_mul_le_self _ _
  have t2 : most - k0 < (t + 1) * k1 := by rw [← ht]; exact Nat.lt_mul_of_div_lt (Nat.lt_succ_self _) (by omega)
  have t3 : (t + 1) * k1 = t * k1 + k1 := Nat.succ_mul _ _
  have tn : t < (qfloor x).natAbs := Nat.lt_of_mul_lt_mul_right (a := k1) (by omega)
  have hK2 : k0 + t * k1 ≠ 0 := by
    intro h0'
    have hk0 : k0 = 0 := by omega
    have : most - k0 < k1 := by
      have : t * k1 = 0 := by omega
      omega
    omega
  have det2 : h1 * ((k0 + t * k1 : Nat) : Int) - (h0 + (t : Int) * h1) * k1 = h1 * k0 - h0 * k1 := by
    rw [Int.natCast_add, Int.natCast_mul]; grind
  have pa := mkRat_det (z := h1) (u := h0 + (t : Int) * h1) (d := k1) (v := k0 + t * k1) (by omega) (by rw [det2]; exact h.det)
  have pb := mkRat_det (z := h0 + (t : Int) * h1) (u := h1) (d := k0 + t * k1) (v := k1) hK2 (by
    rcases h.det with d | d
    · right; grind
    · left; grind)
  generalize hA : mkRat h1 k1 = A at pa
  generalize hB : mkRat (h0 + (t : Int) * h1) (k0 + t * k1) = B at pb
  generalize hK : k0 + t * k1 = K2 at *
  generalize hH : h0 + (t : Int) * h1 = H2 at *
  have e1 := h.num
  have e2 := h.den
  have E1 : h1 * q.den - q.num * k1 = x.den * (h1 * k0 - h0 * k1) := by grind
  have hKi : (K2 : Int) = k0 + t * k1 := by rw [← hK, Int.natCast_add, Int.natCast_mul]
  have E2 : q.num * K2 - H2 * q.den = (h1 * k0 - h0 * k1) * (x.num - x.den * t) := by
    rw [hKi, ← hH]; grind
  have hpos : 0 < x.num - x.den * t := by
    have : (t : Int) + 1 ≤ qfloor x := by omega
    have h2 : ((t : Int) + 1) * x.den ≤ qfloor x * x.den := Int.mul_le_mul_of_nonneg_right this (by omega)
    rw [Int.add_mul, Int.one_mul, Int.mul_comm] at h2
    omega
  have hden : (pickN q A B).den ≤ most := by
    unfold pickN
    split
    · rw [pb.2]; omega
    · rw [pa.2]; omega
  have sum : ∀ {s u v : Int}, s = K2 * u + k1 * v → 1 ≤ u → 1 ≤ v → (most : Int) < s := by
    intro s u v hs hu hv
    have h1 : (K2 : Int) * 1 ≤ K2 * u := Int.mul_le_mul_of_nonneg_left hu (by omega)
    have h2 : (k1 : Int) * 1 ≤ k1 * v := Int.mul_le_mul_of_nonneg_left hv (by omega)
    omega
  refine ⟨hK2, fun n hnm => ?_, hden⟩
  obtain ⟨m1, m2⟩ := pick_min q A B
  have lt_iff : ∀ {a b : Rat}, a < b ↔ a.num * b.den < b.num * a.den := fun {a b} => Rat.lt_iff a b
  rcases h.det with d | d
  · rw [d] at E1 E2 det2
    have c1 : q < A := by rw [lt_iff, pa.1, pa.2]; omega
    have c2 : B < q := by rw [lt_iff, pb.1, pb.2]; omega
    refine out_best c2 c1 ?_ m2 m1
    by_cases hb : B < n
    · refine .inr (Rat.not_lt.1 fun ha => ?_)
      rw [lt_iff, pb.1, pb.2] at hb
      rw [lt_iff, pa.1, pa.2] at ha
      have := sum (s := n.den) (u := h1 * n.den - n.num * k1) (v := n.num * K2 - H2 * n.den) (by grind) (by omega) (by omega)
      omega
    · exact .inl (Rat.not_lt.1 hb)
  · rw [d] at E1 E2 det2
    have c1 : A < q := by rw [lt_iff, pa.1, pa.2]; omega
    have c2 : q < B := by rw [lt_iff, pb.1, pb.2]; omega
    refine out_best c1 c2 ?_ m1 m2
    by_cases hb : A < n
    · refine .inr (Rat.not_lt.1 fun ha => ?_)
      rw [lt_iff, pa.1, pa.2] at hb
      rw [lt_iff, pb.1, pb.2] at ha
      have := sum (s := n.den) (u := n.num * k1 - h1 * n.den) (v := H2 * n.den - n.num * K2) (by grind) (by omega) (by omega)
      omega
    · exact .inl (Rat.not_lt.1 hb)
end Go.FK


/- The plain law: Best, the program's and the reference's. -/
namespace Go.FK
variable {M : Nat} {r s : RR} {q : Rat}

theorem sgnN_lt {m n : Nat} (h : m < n) : sgn m n = -1 := by unfold sgn; rw [if_pos (by omega)]
theorem sgnN_eq {m n : Nat} (h : m = n) : sgn m n = 0 := by unfold sgn; rw [if_neg (by omega), if_pos (by omega)]
theorem sgnN_gt {m n : Nat} (h : n < m) : sgn m n = 1 := by unfold sgn; rw [if_neg (by omega), if_neg (by omega)]

theorem pickN_pos {q a b : Rat} (h : Near q b a) : pickN q a b = b := by unfold pickN; rw [if_pos h]
theorem pickN_neg {q a b : Rat} (h : ¬ Near q b a) : pickN q a b = a := by unfold pickN; rw [if_neg h]

theorem nearer_ev {u v : Rat} (hr : Rt M r q) (hu : LQ u ≤ M) (hv : LQ v ≤ M) (h1 : 1 ≤ M) (hM : M ≤ 1000000000) : Ev (fun k => ratio_nearer.f k r (rat u) (rat v)) (rat (pickN q u v)) := by
  have lq := hr.LQ h1
  have l1 := LQ_sub u q
  have l2 := LQ_sub v q
  have a1 : Rt (10 * M) (rat (u - q)) (u - q) := Rt.of (by omega)
  have a2 : Rt (10 * M) (rat (v - q)) (v - q) := Rt.of (by omega)
  have b1 : Rt (10 * M) (rat (u - q).abs) (u - q).abs := Rt.of (by rw [LQ_abs]; omega)
  have b2 : Rt (10 * M) (rat (v - q).abs) (v - q).abs := Rt.of (by rw [LQ_abs]; omega)
  have hur : Rt M (rat u) u := Rt.of hu
  have hvr : Rt M (rat v) v := Rt.of hv
  have p13 : ∀ c : Int, Ev (fun k => ratio_nearer.p13 k (rat u) (rat v) ((false, ([] : List Int)), ([] : List Int)) c) (rat (if c ≤ 0 then u else v)) := by
    intro c
    refine Ev.turn (fun k => ratio_nearer.p13_succ k _ _ _ _) ?_
    unfold ratio_nearer.e13
    by_cases hc : c ≤ 0
    · rw [if_pos hc]; exact Ev.tru (dec_t hc) Ev.pure
    · rw [if_neg hc]; exact Ev.fls (dec_f hc) Ev.pure
  have p9 : ∀ c : Int, Ev (fun k => ratio_nearer.p9 k (rat u) (rat v) ((false, ([] : List Int)), ([] : List Int)) c) (rat (if (if c = 0 then qs u v else c) ≤ 0 then u else v)) := by
    intro c
    refine Ev.turn (fun k => ratio_nearer.p9_succ k _ _ _ _) ?_
    unfold ratio_nearer.e9
    by_cases hc : c = 0
    · rw [if_pos hc]
      exact Ev.tru (dec_t hc) (Ev.bind (hur.cmp hvr h1 (by omega)) (p13 _))
    · rw [if_neg hc]
      exact Ev.fls (dec_f hc) (p13 _)
  have hd : ∀ x : Rat, (x - q).abs = (q - x).abs := fun x => Rat.abs_sub_comm
  unfold ratio_nearer.f ratio_nearer.e
  refine Ev.bind (hur.sub hr h1 (by omega)) (Ev.bind (a1.abs (by omega) (by omega)) (Ev.bind (hvr.sub hr h1 (by omega)) (Ev.bind (a2.abs (by omega) (by omega)) (Ev.bind (b1.cmp b2 (by omega) (by omega)) ?_))))
  by_cases hz : qs (u - q).abs (v - q).abs = 0
  · refine Ev.tru (dec_t hz) (Ev.bind ((Rt.den' hu).cmp (Rt.den' hv) (by omega)) ?_)
    have e : (if (if sgn u.den v.den = 0 then qs u v else sgn u.den v.den) ≤ 0 then u else v) = pickN q u v := by
      have hz := qs_zero.1 hz
      rw [hd, hd] at hz
      rcases Nat.lt_trichotomy u.den v.den with h | h | h
      · rw [sgnN_lt h, pickN_neg]
        · simp
        rintro (h2 | ⟨_, h2 | ⟨h2, _⟩⟩)
        · rw [hz] at h2; exact Rat.lt_irrefl h2
        · omega
        · omega
      · rw [sgnN_eq h, if_pos rfl]
        by_cases hc : v < u
        · rw [qs_gt hc, if_neg (by omega), pickN_pos (.inr ⟨hz.symm, .inr ⟨h.symm, hc⟩⟩)]
        · have : qs u v ≤ 0 := by
            rcases qs_cases u v with h3 | h3 | h3
            · omega
            · omega
            · refine absurd ?_ hc
              refine Rat.not_le.1 fun hle => ?_
              by_cases e : u = v
              · rw [qs_eq e] at h3; omega
              · rw [qs_lt (by grind)] at h3; omega
          rw [if_pos this, pickN_neg]
          rintro (h2 | ⟨_, h2 | ⟨_, h2⟩⟩)
          · rw [hz] at h2; exact Rat.lt_irrefl h2
          · omega
          · exact hc h2
      · rw [sgnN_gt h, pickN_pos (.inr ⟨hz.symm, .inl h⟩)]
        simp
    rw [← e]
    exact p9 _
  · refine Ev.fls (dec_f hz) ?_
    have e : (if (if qs (u - q).abs (v - q).abs = 0 then qs u v else qs (u - q).abs (v - q).abs) ≤ 0 then u else v) = pickN q u v := by
      rw [if_neg hz]
      rw [hd, hd] at hz ⊢
      rcases qs_cases (q - u).abs (q - v).abs with h | h | h
      · have hlt : (q - u).abs < (q - v).abs := qs_neg.1 (by omega)
        rw [h, if_pos (by omega), pickN_neg]
        rintro (h2 | ⟨h2, _⟩)
        · grind
        · rw [h2] at hlt; exact Rat.lt_irrefl hlt
      · exact absurd h hz
      · have hgt : (q - v).abs < (q - u).abs := by
          refine Rat.not_le.1 fun hle => ?_
          by_cases e : (q - u).abs = (q - v).abs
          · exact hz (qs_eq e)
          · rw [qs_lt (by grind)] at h; omega
        rw [h, if_neg (by omega), pickN_pos (.inl hgt)]
    rw [← e]
    exact p9 _

theorem rnearer_ev {u v : Rat} {a b : RR} (hr : Rt M r q) (hur : Rt M a u) (hvr : Rt M b v) (h1 : 1 ≤ M) (hM : M ≤ 1000000000) : Ev (fun k => ref03_Nearer.f k r a b) (decide (Near q u v)) := by
  have lq := hr.LQ h1
  have lu := hur.LQ h1
  have lv := hvr.LQ h1
  have l1 := LQ_sub q u
  have l2 := LQ_sub q v
  have a1 : Rt (10 * M) (rat (q - u)) (q - u) := Rt.of (by omega)
  have a2 : Rt (10 * M) (rat (q - v)) (q - v) := Rt.of (by omega)
  have b1 : Rt (10 * M) (rat (q - u).abs) (q - u).abs := Rt.of (by rw [LQ_abs]; omega)
  have b2 : Rt (10 * M) (rat (q - v).abs) (q - v).abs := Rt.of (by rw [LQ_abs]; omega)
  unfold ref03_Nearer.f ref03_Nearer.e
  refine Ev.bind (hr.rsub hur h1 (by omega)) (Ev.bind (a1.rabs (by omega) (by omega)) (Ev.bind (hr.rsub hvr h1 (by omega)) (Ev.bind (a2.rabs (by omega) (by omega)) (Ev.bind (b1.rcmp b2 (by omega) (by omega)) ?_))))
  by_cases hz : qs (q - u).abs (q - v).abs = 0
  · refine Ev.fls (by simp [hz]) (Ev.bind (hur.rnorm (by omega)) (Ev.bind (hvr.rnorm (by omega)) (Ev.bind ((Rt.den' lu).rcmp (Rt.den' lv) (by omega)) ?_)))
    have hz := qs_zero.1 hz
    rcases Nat.lt_trichotomy u.den v.den with h | h | h
    · refine Ev.tru (by rw [sgnN_lt h]; rfl) ?_
      rw [sgnN_lt h, dec_t (show Near q u v from .inr ⟨hz, .inl h⟩)]
      exact Ev.pure
    · refine Ev.fls (by rw [sgnN_eq h]; rfl) (Ev.bind (hur.rcmp hvr h1 (by omega)) ?_)
      have e : decide (qs u v < 0) = decide (Near q u v) := by
        refine decide_eq_decide.2 ⟨fun h2 => .inr ⟨hz, .inr ⟨h, qs_neg.1 h2⟩⟩, ?_⟩
        rintro (h2 | ⟨_, h2 | ⟨_, h2⟩⟩)
        · rw [hz] at h2; exact absurd h2 Rat.lt_irrefl
        · omega
        · exact qs_neg.2 h2
      rw [e]
      exact Ev.pure
    · refine Ev.tru (by rw [sgnN_gt h]; rfl) ?_
      have : ¬ Near q u v := by
        rintro (h2 | ⟨_, h2 | ⟨h2, _⟩⟩)
        · rw [hz] at h2; exact Rat.lt_irrefl h2
        · omega
        · omega
      rw [sgnN_gt h, dec_f this]
      exact Ev.pure
  · refine Ev.tru (by simp [hz]) ?_
    have e : decide (qs (q - u).abs (q - v).abs < 0) = decide (Near q u v) := by
      refine decide_eq_decide.2 ⟨fun h2 => .inl (qs_neg.1 h2), ?_⟩
      rintro (h2 | ⟨h2, _⟩)
      · exact qs_neg.2 h2
      · exact absurd (qs_eq h2) hz
    rw [e]
    exact Ev.pure
end Go.FK


/- The plain law: RatioNearest, RatioCloser. -/
namespace Go.FK
variable {M : Nat} {r : RR} {q : Rat} {a : List Int} {most : Nat}

theorem Cv.sz {x : Rat} {h0 h1 : Int} {k0 k1 : Nat} (h : Cv q x h0 k0 h1 k1) (hs : Sz M q) (hM : 1 ≤ M) : LZ h1 ≤ M + 1 ∧ LZ h0 ≤ M + 1 ∧ L k1 ≤ M ∧ L k0 ≤ M := by
  obtain ⟨s1, s2, s3, s4⟩ := h.sizes
  have a1 := L_add q.num.natAbs 1
  have a2 : L 1 = 1 := L_one
  have a3 : L q.num.natAbs ≤ M := hs.1
  have b1 : LZ h1 ≤ L (q.num.natAbs + 1) := L_mono s1
  have b2 : LZ h0 ≤ L (q.num.natAbs + 1) := L_mono s2
  have b3 : L k1 ≤ L q.den := L_mono s3
  have b4 : L k0 ≤ L q.den := L_mono s4
  have := hs.2
  omega

/-- The next convergent, tried. -/
theorem body_ev {rq z : RR} {n h0 h1 : Int} {k0 k1 : Nat} (ha : Nt M a most) (hM : 1 ≤ M ∧ M ≤ 10000000) (hn : LZ n ≤ M + 1) (z1 : LZ h1 ≤ M + 1) (z0 : LZ h0 ≤ M + 1) (n1 : L k1 ≤ M) (n0 : L k0 ≤ M) :
    Ev (fun k => bodyB ratio_Best.fs k (rq, a, z, int h0, lim k0, int h1, lim k1, false) (int n)) (if most < n.natAbs * k1 + k0 then (false, rq, a, z, int h0, lim k0, int h1, lim k1, false) else (true, rq, a, z, int h1, lim k1, int (n * h1 + h0), lim (n.natAbs * k1 + k0), false)) := by
  have l1 := LZ_mul n h1
  have l3 := L_mul n.natAbs k1
  have l4 : L n.natAbs ≤ M + 1 := hn
  have l5 := L_add (n.natAbs * k1) k0
  have e1 : Zt (M + 1) (int n) n := Zt.of hn
  have e2 : Zt (M + 1) (int h1) h1 := Zt.of z1
  have e3 : Zt (4 * M) (int (n * h1)) (n * h1) := Zt.of (by omega)
  have e4 : Zt (4 * M) (int h0) h0 := Zt.of (by omega)
  have f1 : Nt (M + 1) (lim n.natAbs) n.natAbs := Nt.of l4
  have f2 : Nt (M + 1) (lim k1) k1 := Nt.of (by omega)
  have f3 : Nt (4 * M) (lim (n.natAbs * k1)) (n.natAbs * k1) := Nt.of (by omega)
  have f4 : Nt (4 * M) (lim k0) k0 := Nt.of (by omega)
  have f5 : Nt (6 * M) (lim (n.natAbs * k1 + k0)) (n.natAbs * k1 + k0) := Nt.of (by omega)
  unfold bodyB
  refine Ev.fls rfl (Ev.bind (e1.mul e2 (by omega)) (Ev.bind (e3.add e4 (by omega)) (Ev.bind (f1.mul f2 (by omega)) (Ev.bind (f3.add f4 (by omega)) (Ev.bind (f5.cmp (ha.mono (by omega)) (by omega)) ?_)))))
  by_cases h : most < n.natAbs * k1 + k0
  · rw [if_pos h]
    exact Ev.tru (by rw [sgnN_gt h]; rfl) Ev.pure
  · rw [if_neg h]
    refine Ev.fls ?_ Ev.pure
    rcases Nat.lt_or_eq_of_le (Nat.le_of_not_lt h) with h | h
    · rw [sgnN_lt h]; rfl
    · rw [sgnN_eq h]; rfl

/-- The end of the reference's loop. -/
theorem rstop_ev {x : Rat} {h0 h1 : Int} {k0 k1 : Nat} {rq z : RR} {Lst : List (Bool × List Int)} {i : Nat} (hr : Rt (2 * M) rq q) (hs : Sz M q) (ha : Nt M a most) (hM : 1 ≤ M ∧ M ≤ 10000000) (h : Cv q x h0 k0 h1 k1) (hm : k1 ≤ most) (hstop : most < (qfloor x).natAbs * k1 + k0) (hL : nthD (false, ([] : List Int)) Lst i = int (qfloor x)) (hi : i < Lst.length) (hx : LZ (qfloor x) ≤ M + 1) :
    Ev (fun k => ref03_Best.p0 k rq z (int h0) (int h1) a Lst (lim k0) (lim k1) (i : Int)) (rat (pickN q (candA h1 k1) (candB most h0 k0 h1 k1)), (0 : Int)) := by
  obtain ⟨z1, z0, n1, n0⟩ := h.sz hs hM.1
  have kk := h.kk
  have kp := h.kpos
  obtain ⟨hK, _, _⟩ := h.best hm hstop
  have l3 := L_mul (qfloor x).natAbs k1
  have l4 : L (qfloor x).natAbs ≤ M + 1 := hx
  have l5 := L_add k0 ((qfloor x).natAbs * k1)
  have f1 : Nt (M + 1) (lim (qfloor x).natAbs) (qfloor x).natAbs := Nt.of l4
  have f2 : Nt (M + 1) (lim k1) k1 := Nt.of (by omega)
  have f3 : Nt (4 * M) (lim ((qfloor x).natAbs * k1)) ((qfloor x).natAbs * k1) := Nt.of (by omega)
  have f4 : Nt (4 * M) (lim k0) k0 := Nt.of (by omega)
  have f5 : Nt (6 * M) (lim (k0 + (qfloor x).natAbs * k1)) (k0 + (qfloor x).natAbs * k1) := Nt.of (by omega)
  refine Ev.turn (fun k => ref03_Best.p0_succ k _ _ _ _ _ _ _ _ _) ?_
  unfold ref03_Best.e0
  have e : nthD (false, ([] : List Int)) Lst (Int.toNat (i : Int)) = int (qfloor x) := hL
  simp only [e]
  refine Ev.tru (by simp; omega) (Ev.bind (f1.rmul f2 (by omega)) (Ev.bind (f4.radd f3 (by omega)) (Ev.bind (f5.rcmp (ha.mono (by omega)) (by omega)) (Ev.tru (by rw [sgnN_gt (by omega)]; rfl) ?_))))
  -- the two candidates
  have g1 : Nt M (lim k0) k0 := Nt.of n0
  have g2 : Nt M (lim k1) k1 := Nt.of n1
  have s1 := L_sub most k0
  have sm := ha.L
  have s2 := L_div (most - k0) k1
  have g3 : Nt M (lim (most - k0)) (most - k0) := Nt.of (by omega)
  generalize ht : (most - k0) / k1 = t at s2
  have s3 := LZ_mul t h1
  have s4 : LZ (t : Int) = L t := LZ_nat t
  have s5 := LZ_add h0 (t * h1)
  have s6 := L_mul t k1
  have s7 := L_add k0 (t * k1)
  have g4 : Zt (M + 1) (false, lim t) (t : Int) := Zt.pos (Nt.of (by omega))
  have g5 : Zt (M + 1) (int h1) h1 := Zt.of z1
  have g6 : Zt (4 * M) (int (t * h1)) (t * h1) := Zt.of (by omega)
  have g7 : Zt (4 * M) (int h0) h0 := Zt.of (by omega)
  have g8 : Zt (6 * M) (int (h0 + t * h1)) (h0 + t * h1) := Zt.of (by omega)
  have g9 : Nt (4 * M) (lim (t * k1)) (t * k1) := Nt.of (by omega)
  have g10 : Nt (6 * M) (lim (k0 + t * k1)) (k0 + t * k1) := Nt.of (by omega)
  have g11 : Nt (M + 1) (lim t) t := Nt.of (by omega)
  have qa : Rt (M + 1) (int h1, lim k1) (mkRat h1 k1) := Rt.mk2 g5 f2
  have qb : Rt (6 * M) (int (h0 + t * h1), lim (k0 + t * k1)) (mkRat (h0 + t * h1) (k0 + t * k1)) := Rt.mk2 g8 g10
  have la := qa.LQ (by omega)
  have lb := qb.LQ (by omega)
  have hA : candA h1 k1 = mkRat h1 k1 := rfl
  have hB : candB most h0 k0 h1 k1 = mkRat (h0 + t * h1) (k0 + t * k1) := by unfold candB; rw [ht]
  have e1 := g3.rdiv g2 (by omega) (by omega)
  rw [ht] at e1
  refine Ev.bind ((ha.rsub g1 (by omega) (by omega))) (Ev.bind e1 (Ev.bind (qa.rnorm (by omega)) (Ev.bind (Ev.pure : Ev (fun k => ref03_positive.f k (lim t)) (false, lim t)) (Ev.bind (g4.rmul g5 (by omega)) (Ev.bind (g7.radd g6 (by omega)) (Ev.bind (g11.rmul f2 (by omega)) (Ev.bind (f4.radd g9 (by omega)) (Ev.bind (qb.rnorm (by omega)) (Ev.bind (rnearer_ev (M := 20 * M) (hr.mono (by omega)) (Rt.of (by omega)) (Rt.of (by omega)) (by omega) (by omega)) ?_)))))))))
  rw [hA, hB]
  by_cases hn : Near q (mkRat (h0 + t * h1) (k0 + t * k1)) (mkRat h1 k1)
  · rw [pickN_pos hn]
    exact Ev.tru (dec_t hn) Ev.pure
  · rw [pickN_neg hn]
    exact Ev.fls (dec_f hn) Ev.pure

/-- Behind the program's loop. -/
theorem post_ev {x : Rat} {h0 h1 : Int} {k0 k1 : Nat} {rq z : RR} {fi : Bool} (hr : Rt (2 * M) rq q) (hs : Sz M q) (ha : Nt M a most) (hM : 1 ≤ M ∧ M ≤ 10000000) (h : Cv q x h0 k0 h1 k1) (hm : k1 ≤ most) (hstop : most < (qfloor x).natAbs * k1 + k0) :
    Ev (fun k => postB ratio_Best.fs k (rq, a, z, int h0, lim k0, int h1, lim k1, fi)) (rat (pickN q (candA h1 k1) (candB most h0 k0 h1 k1)), (0 : Int)) := by
  obtain ⟨z1, z0, n1, n0⟩ := h.sz hs hM.1
  have kk := h.kk
  have kp := h.kpos
  obtain ⟨hK, _, _⟩ := h.best hm hstop
  have f2 : Nt (M + 1) (lim k1) k1 := Nt.of (by omega)
  have f4 : Nt (4 * M) (lim k0) k0 := Nt.of (by omega)
  have g1 : Nt M (lim k0) k0 := Nt.of n0
  have g2 : Nt M (lim k1) k1 := Nt.of n1
  have s1 := L_sub most k0
  have sm := ha.L
  have s2 := L_div (most - k0) k1
  have g3 : Nt M (lim (most - k0)) (most - k0) := Nt.of (by omega)
  have e1 := g3.div g2 (by omega) (by omega)
  generalize ht : (most - k0) / k1 = t at s2 e1 hK
  have s3 := LZ_mul t h1
  have s4 : LZ (t : Int) = L t := LZ_nat t
  have s5 := LZ_add h0 (t * h1)
  have s6 := L_mul t k1
  have s7 := L_add k0 (t * k1)
  have g4 : Zt (M + 1) (false, lim t) (t : Int) := Zt.pos (Nt.of (by omega))
  have g5 : Zt (M + 1) (int h1) h1 := Zt.of z1
  have g6 : Zt (4 * M) (int (t * h1)) (t * h1) := Zt.of (by omega)
  have g7 : Zt (4 * M) (int h0) h0 := Zt.of (by omega)
  have g8 : Zt (6 * M) (int (h0 + t * h1)) (h0 + t * h1) := Zt.of (by omega)
  have g9 : Nt (4 * M) (lim (t * k1)) (t * k1) := Nt.of (by omega)
  have g10 : Nt (6 * M) (lim (k0 + t * k1)) (k0 + t * k1) := Nt.of (by omega)
  have g11 : Nt (M + 1) (lim t) t := Nt.of (by omega)
  have qa : Rt (M + 1) (int h1, lim k1) (mkRat h1 k1) := Rt.mk2 g5 f2
  have qb : Rt (6 * M) (int (h0 + t * h1), lim (k0 + t * k1)) (mkRat (h0 + t * h1) (k0 + t * k1)) := Rt.mk2 g8 g10
  have la := qa.LQ (by omega)
  have lb := qb.LQ (by omega)
  have hA : candA h1 k1 = mkRat h1 k1 := rfl
  have hB : candB most h0 k0 h1 k1 = mkRat (h0 + t * h1) (k0 + t * k1) := by unfold candB; rw [ht]
  rw [hA, hB]
  unfold postB
  exact Ev.bind ((ha.sub g1 (by omega) (by omega))) (Ev.bind e1 (Ev.bind (made_ev g5 f2 (by omega) (by omega)) (Ev.bind (g4.mul g5 (by omega)) (Ev.bind (g7.add g6 (by omega)) (Ev.bind (g11.mul f2 (by omega)) (Ev.bind (f4.add g9 (by omega)) (Ev.bind (made_ev g8 g10 hK (by omega)) (Ev.bind (nearer_ev (M := 20 * M) (hr.mono (by omega)) (by omega) (by omega) (by omega) (by omega)) Ev.pure))))))))

/-- The loops: both stop at one place. -/
theorem loop_ev {rq z z' : RR} (hr : Rt (2 * M) rq q) (hs : Sz M q) (ha : Nt M a most) (hM : 1 ≤ M ∧ M ≤ 10000000) (hq : most < q.den) (Lst : List (Bool × List Int)) (hlen : Lst.length ≤ 1000000000000) : ∀ (b i : Nat) (x : Rat) (h0 h1 : Int) (k0 k1 : Nat), Cv q x h0 k0 h1 k1 → Few b x → Sz M x → k1 ≤ most → Lst.drop i = (cfB b x).map int →
    ∃ X H0 K0 H1 K1, Cv q X H0 K0 H1 K1 ∧ K1 ≤ most ∧ most < (qfloor X).natAbs * K1 + K0 ∧ Ev (fun k => loopB ratio_Best.fs k (rq, a, z, int h0, lim k0, int h1, lim k1, false) ((cfB b x).map int)) (rq, a, z, int H0, lim K0, int H1, lim K1, false) ∧
      Ev (fun k => ref03_Best.p0 k rq z' (int h0) (int h1) a Lst (lim k0) (lim k1) (i : Int)) (rat (pickN q (candA H1 K1) (candB most H0 K0 H1 K1)), (0 : Int)) := by
  intro b
  induction b with
  | zero =>
    intro i x h0 h1 k0 k1 hc hf hx hk hL
    have hfr := hf.zero
    have hd := hc.last hfr
    obtain ⟨z1, z0, n1, n0⟩ := hc.sz hs hM.1
    have hi : i < Lst.length := by
      have := congrArg List.length hL
      simp [cfB] at this
      omega
    have hnth : nthD (false, ([] : List Int)) Lst i = int (qfloor x) := by
      rw [nthD_eq, List.getD_eq_getElem?_getD]
      have : Lst[i]? = some (int (qfloor x)) := by
        have h2 : (Lst.drop i)[0]? = some (int (qfloor x)) := by rw [hL]; rfl
        rw [List.getElem?_drop] at h2
        simpa using h2
      rw [this]; rfl
    refine ⟨x, h0, k0, h1, k1, hc, hk, by omega, ?_, rstop_ev hr hs ha hM hc hk (by omega) hnth hi hx.floor⟩
    have hb := body_ev (rq := rq) (z := z) ha hM hx.floor z1 z0 n1 n0
    rw [if_pos (by omega)] at hb
    exact Ev.bind hb (Ev.fls rfl Ev.pure)
  | succ b ih =>
    intro i x h0 h1 k0 k1 hc hf hx hk hL
    obtain ⟨z1, z0, n1, n0⟩ := hc.sz hs hM.1
    have hhead : ∃ l, (cfB (b + 1) x) = qfloor x :: l := by unfold cfB; split <;> exact ⟨_, rfl⟩
    obtain ⟨l, hl⟩ := hhead
    have hi : i < Lst.length := by
      have := congrArg List.length hL
      rw [hl] at this
      simp at this
      omega
    have hnth : nthD (false, ([] : List Int)) Lst i = int (qfloor x) := by
      rw [nthD_eq, List.getD_eq_getElem?_getD]
      have : Lst[i]? = some (int (qfloor x)) := by
        have h2 : (Lst.drop i)[0]? = some (int (qfloor x)) := by rw [hL, hl]; rfl
        rw [List.getElem?_drop] at h2
        simpa using h2
      rw [this]; rfl
    have hb := body_ev (rq := rq) (z := z) ha hM hx.floor z1 z0 n1 n0
    by_cases hstop : most < (qfloor x).natAbs * k1 + k0
    · refine ⟨x, h0, k0, h1, k1, hc, hk, hstop, ?_, rstop_ev hr hs ha hM hc hk hstop hnth hi hx.floor⟩
      rw [if_pos hstop] at hb
      rw [hl]
      exact Ev.bind hb (Ev.fls rfl Ev.pure)
    · rw [if_neg hstop] at hb
      have hfr : fr x ≠ 0 := by
        intro h
        have := hc.last h
        omega
      have hcf : cfB (b + 1) x = qfloor x :: cfB b (fr x)⁻¹ := by
        show (if fr x = 0 then [qfloor x] else qfloor x :: cfB b (fr x)⁻¹) = _
        rw [if_neg hfr]
      have hc2 := hc.step hfr
      have hL2 : Lst.drop (i + 1) = (cfB b (fr x)⁻¹).map int := by
        have h2 : (Lst.drop i).drop 1 = (cfB b (fr x)⁻¹).map int := by rw [hL, hcf]; rfl
        rw [List.drop_drop] at h2
        exact h2
      obtain ⟨X, H0, K0, H1, K1, c1, c2, c3, c4, c5⟩ := ih (i + 1) _ _ _ _ _ hc2 (hf.next hfr) (hx.next hfr) (by omega) hL2
      refine ⟨X, H0, K0, H1, K1, c1, c2, c3, ?_, ?_⟩
      · rw [hcf]
        exact Ev.bind hb (Ev.tru rfl c4)
      · have l3 := L_mul (qfloor x).natAbs k1
        have l4 : L (qfloor x).natAbs ≤ M + 1 := hx.floor
        have l5 := L_add k0 ((qfloor x).natAbs * k1)
        have l6 := LZ_mul (qfloor x) h1
        have hx' := hx.floor
        have f1 : Nt (M + 1) (lim (qfloor x).natAbs) (qfloor x).natAbs := Nt.of l4
        have f2 : Nt (M + 1) (lim k1) k1 := Nt.of (by omega)
        have f3 : Nt (4 * M) (lim ((qfloor x).natAbs * k1)) ((qfloor x).natAbs * k1) := Nt.of (by omega)
        have f4 : Nt (4 * M) (lim k0) k0 := Nt.of (by omega)
        have f5 : Nt (6 * M) (lim (k0 + (qfloor x).natAbs * k1)) (k0 + (qfloor x).natAbs * k1) := Nt.of (by omega)
        have e1 : Zt (M + 1) (int (qfloor x)) (qfloor x) := Zt.of (by omega)
        have e2 : Zt (M + 1) (int h1) h1 := Zt.of z1
        have e3 : Zt (4 * M) (int (qfloor x * h1)) (qfloor x * h1) := Zt.of (by omega)
        have e4 : Zt (4 * M) (int h0) h0 := Zt.of (by omega)
        refine Ev.turn (fun k => ref03_Best.p0_succ k _ _ _ _ _ _ _ _ _) ?_
        unfold ref03_Best.e0
        have e : nthD (false, ([] : List Int)) Lst (Int.toNat (i : Int)) = int (qfloor x) := hnth
        have ew : IntKind.i64.wrap ((i : Int) + 1) = ((i + 1 : Nat) : Int) := by rw [wrap_i64 (by omega) (by omega)]; omega
        simp only [e, ew]
        refine Ev.tru (by simp; omega) (Ev.bind (f1.rmul f2 (by omega)) (Ev.bind (f4.radd f3 (by omega)) (Ev.bind (f5.rcmp (ha.mono (by omega)) (by omega)) (Ev.fls ?_ (Ev.tru (by simp; omega) (Ev.bind (e1.rmul e2 (by omega)) (Ev.bind (e4.radd e3 (by omega)) ?_)))))))
        · rcases Nat.lt_or_eq_of_le (show k0 + (qfloor x).natAbs * k1 ≤ most by omega) with h | h
          · rw [sgnN_lt h]; rfl
          · rw [sgnN_eq h]; rfl
        · rw [Int.add_comm h0, Nat.add_comm k0]
          exact c5

theorem not_int_of {q : Rat} (h : most < q.den) (h0 : most ≠ 0) : fr q ≠ 0 := by
  intro hf
  have e := congrArg Rat.den (of_fr_zero hf)
  rw [Rat.den_intCast] at e
  omega
/-- What Best answers. -/
def bestS (q : Rat) (most : Nat) (p : Rat) : Prop := p.den ≤ most ∧ ∀ n : Rat, n.den ≤ most → ¬ Near q n p
theorem best_self {q : Rat} (h : q.den ≤ most) : bestS q most q := by
  refine ⟨h, fun n _ hn => ?_⟩
  have e : (q - q).abs = 0 := by rw [Rat.sub_self]; rfl
  rcases hn with h2 | ⟨h2, h3⟩
  · rw [e] at h2
    exact Rat.not_lt.2 Rat.abs_nonneg h2
  · rw [e] at h2
    have : q - n = 0 := by
      rcases Rat.le_total (a := 0) (b := q - n) with h | h
      · rwa [Rat.abs_of_nonneg h] at h2
      · rw [Rat.abs_of_nonpos h] at h2; grind
    have e3 : n = q := by grind
    rw [e3] at h3
    rcases h3 with h3 | ⟨_, h3⟩
    · omega
    · exact Rat.lt_irrefl h3

theorem bestF_inl {F : BsF} {ex : Nat → PQ → Option (List PZ)} {x : PQ × Int} (h : Ev (fun k => preB F k r a) (.inl x)) : Ev (fun k => bestF F ex k r a) x := by
  obtain ⟨N, h⟩ := h
  refine ⟨N, fun k hk => ?_⟩
  show (preB F k r a).bind _ = some x
  have e : preB F k r a = some (.inl x) := h k hk
  rw [e]; rfl
theorem bestF_inr {F : BsF} {ex : Nat → PQ → Option (List PZ)} {s : PS} {x : PQ × Int} (h : Ev (fun k => preB F k r a) (.inr s)) (h2 : Ev (fun k => (ex k s.1).bind fun xs => (loopB F k s xs).bind fun s' => postB F k s') x) : Ev (fun k => bestF F ex k r a) x := by
  obtain ⟨N, h⟩ := h
  obtain ⟨N2, h2⟩ := h2
  refine ⟨max N N2, fun k hk => ?_⟩
  show (preB F k r a).bind _ = some x
  have e : preB F k r a = some (.inr s) := h k (by omega)
  rw [e]
  exact h2 k (by omega)

theorem best_zero (hr : Rt M r q) (ha : Nt M a 0) (h1 : 1 ≤ M) (hM : M ≤ 1048576) : Ev (fun k => ratio_Best.f k r a) (noRat, (11 : Int)) ∧ Ev (fun k => ref03_Best.f k r a) (noRat, (11 : Int)) := by
  constructor
  · obtain ⟨b, hb, _, hev⟩ := ha.bits (by omega)
    have hb0 : b = 0 := hb.zero rfl
    rw [hb0] at hev
    unfold ratio_Best.f
    refine bestF_inl ?_
    unfold preB
    exact Ev.bind hev (Ev.tru rfl Ev.pure)
  · unfold ref03_Best.f ref03_Best.e
    refine Ev.bind (hr.rnorm (by omega)) (Ev.bind (ha.rNorm (by omega)) (Ev.tru (by rw [lim_zero]; rfl) Ev.pure))

theorem best_ev (hr : Rt M r q) (ha : Nt M a most) (h1 : 1 ≤ M) (hM : M ≤ 1048576) (h0 : most ≠ 0) : ∃ p, bestS q most p ∧ LQ p ≤ 40 * M ∧ Ev (fun k => ratio_Best.f k r a) (rat p, (0 : Int)) ∧ Ev (fun k => ref03_Best.f k r a) (rat p, (0 : Int)) := by
  obtain ⟨b, hb, _, hev⟩ := ha.bits (by omega)
  have hb0 : b ≠ 0 := by
    rintro rfl
    have := hb.1
    simp at this
    omega
  have lq := hr.LQ h1
  have hs := hr.sz h1
  have hne : lim most ≠ [] := fun h => h0 ((lim_nil_iff most).1 h)
  have hlen : ¬ ((lim most).length : Int) = 0 := by
    intro h
    exact hne (List.length_eq_zero_iff.1 (by omega))
  by_cases hq : q.den ≤ most
  · have hc : ∀ {c : Int}, c = sgn q.den most → decide (c ≤ 0) = true := by
      rintro c rfl
      rcases Nat.lt_or_eq_of_le hq with h | h
      · rw [sgnN_lt h]; rfl
      · rw [sgnN_eq h]; rfl
    refine ⟨q, best_self hq, by omega, ?_, ?_⟩
    · unfold ratio_Best.f
      refine bestF_inl ?_
      unfold preB
      exact Ev.bind hev (Ev.fls (by simp [hb0]) (Ev.bind (hr.norm (by omega)) (Ev.bind ((Rt.den' lq).cmp (ha.mono (by omega)) (by omega)) (Ev.tru (hc rfl) Ev.pure))))
    · unfold ref03_Best.f ref03_Best.e
      exact Ev.bind (hr.rnorm (by omega)) (Ev.bind (ha.rNorm (by omega)) (Ev.fls (dec_f hlen) (Ev.bind ((Rt.den' lq).rcmp (ha.mono (by omega)) (by omega)) (Ev.tru (hc rfl) Ev.pure))))
  · have hq : most < q.den := by omega
    have hfr := not_int_of hq h0
    have hrq : Rt (2 * (2 * M)) (rat q) q := Rt.of (by omega)
    obtain ⟨b', hb'⟩ : ∃ b', 64 * (2 * M) = b' + 1 := ⟨64 * (2 * M) - 1, by omega⟩
    have hw : Few (b' + 1) q := by rw [← hb']; exact few_of hs
    have hcf : cfB (b' + 1) q = qfloor q :: cfB b' (fr q)⁻¹ := by
      show (if fr q = 0 then [qfloor q] else qfloor q :: cfB b' (fr q)⁻¹) = _
      rw [if_neg hfr]
    have hll := cfB_length (b' + 1) q
    have hex := expand_p0 (M := 2 * M) (by omega) (by omega) (b' + 1) q (rat q) hw hs hrq
    have hrex : Ev (fun k => ref03_Expand.f k (rat q)) ((cfB (b' + 1) q).map int) := by
      unfold ref03_Expand.f ref03_Expand.e
      exact rexpand_p0 (M := 2 * M) (by omega) (by omega) (b' + 1) q (rat q) [] (by simp; omega) hw hs hrq
    have hc : ∀ {c : Int}, c = sgn q.den most → decide (c ≤ 0) = false := by
      rintro c rfl
      rw [sgnN_gt hq]; rfl
    obtain ⟨X, H0, K0, H1, K1, c1, c2, c3, c4, c5⟩ := loop_ev (M := 2 * M) (rq := rat q) (z := ((false, []), [])) (z' := ((false, []), [])) hrq hs (ha.mono (by omega)) ⟨by omega, by omega⟩ hq ((cfB (b' + 1) q).map int) (by simp; omega) b' 1 (fr q)⁻¹ 1 (qfloor q) 0 1 (Cv.first hfr) (hw.next hfr) (hs.next hfr) (by omega) (by rw [hcf]; rfl)
    obtain ⟨d1, d2, d3⟩ := c1.best c2 c3
    have hpost := post_ev (M := 2 * M) (z := ((false, []), [])) (fi := false) hrq hs (ha.mono (by omega)) ⟨by omega, by omega⟩ c1 c2 c3
    have hfl := hr.floor h1 (by omega)
    have e0 : lim 0 = [] := lim_zero
    have e1 : lim 1 = [1] := lim_one
    rw [e0, e1] at c4 c5
    refine ⟨_, ⟨d3, d2⟩, ?_, ?_, ?_⟩
    · obtain ⟨z1, z0, n1, n0⟩ := c1.sz hs (by omega)
      have a1 := LQ_mkRat H1 K1
      have a2 := LQ_mkRat (H0 + ((most - K0) / K1 : Nat) * H1) (K0 + (most - K0) / K1 * K1)
      have a3 := LZ_mul ((most - K0) / K1 : Nat) H1
      have a4 := LZ_add H0 (((most - K0) / K1 : Nat) * H1)
      have a5 := L_mul ((most - K0) / K1) K1
      have a6 := L_add K0 ((most - K0) / K1 * K1)
      have a7 := L_div (most - K0) K1
      have a8 := L_sub most K0
      have a9 := LZ_nat ((most - K0) / K1)
      have a10 := ha.L
      unfold pickN candA candB
      split <;> omega
    · unfold ratio_Best.f
      have hnq : Rt (2 * M) (rat q) q := Rt.of lq
      have hpre : Ev (fun k => preB ratio_Best.fs k r a) (.inr (rat q, a, ((false, []), []), int 1, [], int (qfloor q), [1], true)) := by
        unfold preB
        exact Ev.bind hev (Ev.fls (by simp [hb0]) (Ev.bind (hr.norm (by omega)) (Ev.bind ((Rt.den' lq).cmp (ha.mono (by omega)) (by omega)) (Ev.fls (hc rfl) (Ev.bind (whole_Of_ev (n := 1) (by omega)) (Ev.bind (hnq.floor (by omega) (by omega)) Ev.pure))))))
      refine bestF_inr hpre ?_
      refine Ev.bind hex (Ev.bind ?_ hpost)
      rw [hcf]
      show Ev (fun k => loopB ratio_Best.fs k _ (int (qfloor q) :: (cfB b' (fr q)⁻¹).map int)) _
      exact Ev.bind (Ev.tru rfl Ev.pure : Ev (fun k => bodyB ratio_Best.fs k (rat q, a, ((false, []), []), int 1, [], int (qfloor q), [1], true) (int (qfloor q))) (true, rat q, a, ((false, []), []), int 1, [], int (qfloor q), [1], false)) (Ev.tru rfl c4)
    · unfold ref03_Best.f ref03_Best.e
      refine Ev.bind (hr.rnorm (by omega)) (Ev.bind (ha.rNorm (by omega)) (Ev.fls (dec_f hlen) (Ev.bind ((Rt.den' lq).rcmp (ha.mono (by omega)) (by omega)) (Ev.fls (hc rfl) (Ev.bind hrex (Ev.bind (ref02_Of_ev (n := 1) (by omega)) (Ev.tru (by rw [hcf]; simp) ?_)))))))
      have en : nthD (false, ([] : List Int)) ((cfB (b' + 1) q).map int) 0 = int (qfloor q) := by rw [hcf]; rfl
      simp only [en]
      exact c5

theorem twin_nat (ha : Nt M a most) (hM : M ≤ 70368744177664) : Ev (fun k => law03_nat.f k a) a := law03_nat_ev a (by have := ha.len; omega)

theorem closer_ev {r' : RR} {x : Rat} (hr : Rt M r q) (hx : Rt M r' x) (ha : Nt M a most) (h1 : 1 ≤ M) (hM : M ≤ 1048576) : Ev (fun k => law03_RatioCloser.f k r r' a) true := by
  have lx := hx.LQ h1
  unfold law03_RatioCloser.f law03_RatioCloser.e
  refine Ev.bind (hr.twin (by omega)) (Ev.bind (twin_nat ha (by omega)) ?_)
  by_cases h0 : most = 0
  · subst h0
    obtain ⟨e1, _⟩ := best_zero hr ha h1 hM
    refine Ev.bind e1 (Ev.bind (ha.rNorm (by omega)) (Ev.fls (by rw [lim_zero]; rfl) (Ev.bind half_ev (Ev.fls rfl (Ev.tru rfl Ev.pure)))))
  · obtain ⟨p, hb, hp, e1, _⟩ := best_ev hr ha h1 hM h0
    have hne : lim most ≠ [] := fun h => h0 ((lim_nil_iff most).1 h)
    have hlen : 0 < (lim most).length := List.length_pos_iff.2 hne
    have hpr : Rt (40 * M) (rat p) p := Rt.of hp
    have hxr : Rt (40 * M) (rat x) x := Rt.of (by omega)
    refine Ev.bind e1 (Ev.bind (ha.rNorm (by omega)) (Ev.fls (by simp; omega) (Ev.bind half_ev (Ev.fls rfl (Ev.fls rfl (Ev.bind (hx.rnorm (by omega)) (Ev.bind ((Rt.den' hp).rcmp (ha.mono (by omega)) (by omega)) (Ev.fls ?_ (Ev.bind ((Rt.den' lx).rcmp (ha.mono (by omega)) (by omega)) ?_)))))))))
    · rcases Nat.lt_or_eq_of_le hb.1 with h | h
      · rw [sgnN_lt h]; rfl
      · rw [sgnN_eq h]; rfl
    · by_cases hd : most < x.den
      · exact Ev.tru (by rw [sgnN_gt hd]; rfl) Ev.pure
      · refine Ev.fls ?_ (Ev.bind (rnearer_ev (M := 40 * M) (hr.mono (by omega)) hxr hpr (by omega) (by omega)) ?_)
        · rcases Nat.lt_or_eq_of_le (Nat.le_of_not_lt hd) with h | h
          · rw [sgnN_lt h]; rfl
          · rw [sgnN_eq h]; rfl
        · rw [dec_f (hb.2 x (by omega))]
          exact Ev.pure

theorem closer_math (x : TD [tyRat, tyRat, tyNat]) (hw : wfDs (encT [tyRat, tyRat, tyNat] x)) (hm : massDs (encT [tyRat, tyRat, tyNat] x) ≤ 1048576) : ∃ k, law03_RatioCloser.f k x.1 x.2.1 x.2.2 = some true := by
  obtain ⟨h1, h2, h3, _⟩ := hw
  have hm' : tyRat.mass x.1 + (tyRat.mass x.2.1 + (tyNat.mass x.2.2 + 0)) ≤ 1048576 := hm
  have e := nat_mass x.2.2
  exact (closer_ev (rat_rt (r := x.1) h1 (M := 1048576) (by omega)) (rat_rt (r := x.2.1) h2 (M := 1048576) (by omega)) ((Nt.mk' (a := x.2.2) (nat_wf (a := x.2.2) h3)).mono (by omega)) (by omega) (by omega)).some
end Go.FK
