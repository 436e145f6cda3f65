import Derived.Test.YtllpdchpjhgkgaaGreatDoorM1

/- The plain law: the quotient and what is left; the greatest common divisor. -/
namespace Go.FK

theorem nthD_zeros (n j : Nat) : nthD 0 (List.replicate n (0 : Int)) j = 0 := by
  rw [nthD_eq, List.getD_eq_getElem?_getD]
  by_cases h : j < n <;> simp [h]

theorem bits_or32_high {x y : Int} {s : Nat} (hs : s ≤ 32) (hx : 0 ≤ x ∧ x < 2 ^ (32 - s)) (hy : 0 ≤ y ∧ y < 2 ^ s) : bitsI .or .u32 x (y * 2 ^ (32 - s)) = x + y * 2 ^ (32 - s) := by
  have hp : (2 : Int) ^ s * 2 ^ (32 - s) = B := by rw [← Int.pow_add, show s + (32 - s) = 32 by omega]; rfl
  have h1 : (y + 1) * 2 ^ (32 - s) ≤ 2 ^ s * 2 ^ (32 - s) := Int.mul_le_mul_of_nonneg_right hy.2 (Int.le_of_lt (Int.pow_pos (by omega)))
  have h0 : (0 : Int) < 2 ^ (32 - s) := Int.pow_pos (by omega)
  rw [hp, Int.add_mul] at h1
  have h2 : 0 ≤ y * 2 ^ (32 - s) := Int.mul_nonneg hy.1 (Int.le_of_lt h0)
  have h3 : y * 2 ^ (32 - s) % B = y * 2 ^ (32 - s) := Int.emod_eq_of_lt h2 (by omega)
  have := or_low (u := 32 - s) (x := x) (y := y) (by omega) hx hy.1
  rw [h3] at this
  exact this

theorem long_p4 (u q : List Int) (up n : Nat) (hup : up < 32) (hu : Lim u) (hn : n + 1 ≤ u.length) (hl : u.length ≤ 17592186044417) (hz : nthD 0 u n = 0) (hd : nthD 0 u 0 % 2 ^ up = 0) (R : List Int × List Int)
    (hK : ∀ r : List Int, r.length = n → Lim r → V r * 2 ^ up = V (u.take n) → Ev (fun k => Option.bind (nat_own.f k q) fun r5 => Option.bind (nat_own.f k r) fun r6 => some (r5, r6)) R) :
    ∀ (m i : Nat) (r : List Int), m + i = n → r.length = n → Lim r → V (r.take i) * 2 ^ up = V (u.take i) + B ^ i * (nthD 0 u i % 2 ^ up) → Ev (fun k => nat_long.p4 k u q r (up : Int) (n : Int) (i : Int)) R := by
  intro m
  induction m with
  | zero =>
    intro i r hi hr hlr hV
    have hi : i = n := by omega
    subst hi
    rw [List.take_of_length_le (by omega), hz] at hV
    refine Ev.turn (fun k => nat_long.p4_succ k _ _ _ _ _ _) ?_
    unfold nat_long.e4
    refine Ev.fls (by simp) ?_
    exact hK r hr hlr (by rw [hV]; simp)
  | succ m ih =>
    intro i r hi hr hlr hV
    have hx := hu.get' i
    have hy := hu.get' (i + 1)
    have e1 : IntKind.i64.wrap ((i : Int) + 1) = ((i + 1 : Nat) : Int) := by rw [wrap_i64 (by omega) (by omega)]; omega
    have e2 : IntKind.i64.wrap ((32 : Int) - (up : Int)) = ((32 - up : Nat) : Int) := by rw [wrap_i64 (by omega) (by omega)]; omega
    have hp : (2 : Int) ^ up * 2 ^ (32 - up) = B := by rw [← Int.pow_add, show up + (32 - up) = 32 by omega]; rfl
    have hp0 : (0 : Int) < 2 ^ up := Int.pow_pos (by omega)
    have hp1 : (0 : Int) < 2 ^ (32 - up) := Int.pow_pos (by omega)
    have hple : (2 : Int) ^ (32 - up) ≤ B := by
      have := Int.mul_le_mul_of_nonneg_right (show (1 : Int) ≤ 2 ^ up by omega) (Int.le_of_lt hp1)
      omega
    have e3 : Int.fdiv (nthD 0 u i) (2 ^ min up 32) = nthD 0 u i / 2 ^ up := by rw [Nat.min_eq_left (by omega), Int.fdiv_eq_ediv_of_nonneg _ (by omega)]
    have hy0 : 0 ≤ nthD 0 u (i + 1) * 2 ^ (32 - up) := Int.mul_nonneg hy.1 (by omega)
    have hyb : nthD 0 u (i + 1) * 2 ^ (32 - up) ≤ nthD 0 u (i + 1) * B := Int.mul_le_mul_of_nonneg_left hple hy.1
    have e4 : IntKind.u32.wrap (IntKind.u64.wrap (IntKind.u64.wrap (nthD 0 u (i + 1)) * 2 ^ min (32 - up) 64)) = (nthD 0 u (i + 1) % 2 ^ up) * 2 ^ (32 - up) := by
      have hy2 := hy.2
      simp only [B] at hy2 hyb
      rw [Nat.min_eq_left (by omega), wrap_u64_id hy.1 (by omega), wrap_u64_id hy0 (by omega), wrap_u32]
      show _ % B = _
      rw [← hp, Int.mul_comm (nthD 0 u (i + 1)), Int.mul_comm (2 ^ up), Int.mul_emod_mul_of_pos _ _ hp1, Int.mul_comm]
    have hq0 : 0 ≤ nthD 0 u i / 2 ^ up := Int.ediv_nonneg hx.1 (by omega)
    have hq1 : nthD 0 u i / 2 ^ up < 2 ^ (32 - up) := Int.ediv_lt_of_lt_mul hp0 (by rw [Int.mul_comm, hp]; exact hx.2)
    have hr0 := Int.emod_nonneg (nthD 0 u (i + 1)) (show (2 : Int) ^ up ≠ 0 by omega)
    have hr1 := Int.emod_lt_of_pos (nthD 0 u (i + 1)) hp0
    have e5 := bits_or32_high (s := up) (x := nthD 0 u i / 2 ^ up) (y := nthD 0 u (i + 1) % 2 ^ up) (by omega) ⟨hq0, hq1⟩ ⟨hr0, hr1⟩
    have hval : nthD 0 u i / 2 ^ up + nthD 0 u (i + 1) % 2 ^ up * 2 ^ (32 - up) < B := by
      have := Int.mul_le_mul_of_nonneg_right (show nthD 0 u (i + 1) % 2 ^ up + 1 ≤ 2 ^ up by omega) (Int.le_of_lt hp1)
      rw [hp, Int.add_mul] at this
      omega
    have hval0 : 0 ≤ nthD 0 u (i + 1) % 2 ^ up * 2 ^ (32 - up) := Int.mul_nonneg hr0 (by omega)
    refine Ev.turn (fun k => nat_long.p4_succ k _ _ _ _ _ _) ?_
    unfold nat_long.e4
    simp only [e1, e2, Int.toNat_natCast, e3, e4, e5]
    simp (disch := omega) only [dec_t, dec_f, cond_true, cond_false, Bool.and_true]
    refine ih (i + 1) _ (by omega) (by rw [length_setN]; exact hr) (hlr.set ⟨by omega, hval⟩) ?_
    rw [V_take_setN (by omega), V_take_succ', Int.pow_succ]
    have h6 := Int.emod_add_mul_ediv (nthD 0 u i) (2 ^ up)
    generalize nthD 0 u i / 2 ^ up = d at *
    generalize nthD 0 u i % 2 ^ up = s at *
    generalize nthD 0 u (i + 1) % 2 ^ up = t at *
    generalize B ^ i = P at *
    have h7 : (V (r.take i) + P * (d + t * 2 ^ (32 - up))) * 2 ^ up = V (r.take i) * 2 ^ up + P * (2 ^ up * d) + P * (t * (2 ^ up * 2 ^ (32 - up))) := by
      generalize (2 : Int) ^ up = X
      generalize (2 : Int) ^ (32 - up) = Y
      grind
    rw [h7, hp, hV, ← h6]
    generalize (2 : Int) ^ up * d = Y
    rw [Int.mul_add]
    have h8 : P * B * t = P * (t * B) := by rw [Int.mul_assoc, Int.mul_comm B]
    omega

/-- Rows with no noughts at the end, the divisor at least two limbs. -/
theorem long_ev {m d : Nat} (hd : 2 ≤ L d) (hm : L d ≤ L m) (hM : L m ≤ 17592186044415) : Ev (fun k => nat_long.f k (lim m) (lim d)) (lim (m / d), lim (m % d)) := by
  have hd0 : d ≠ 0 := by intro h; rw [h, L_zero] at hd; omega
  have ht := lim_top hd0
  generalize hn : L d = n at *
  have hln : (lim d).length = n := hn
  generalize hx : nthD 0 (lim d) (n - 1) = x at ht
  have hxB := ht.2.1
  simp only [B] at hxB
  obtain ⟨bl, hbl, hbl32, hlen⟩ := Len32_ev (x := x.toNat) (by omega)
  have hb1 := hbl.low (by omega)
  obtain ⟨up, hup⟩ : ∃ up, up = 32 - bl := ⟨_, rfl⟩
  have hup32 : up < 32 := by omega
  have ntd : Nt n (lim d) d := Nt.of (by omega)
  have ntm : Nt (L m) (lim m) m := Nt.of (Nat.le_refl _)
  obtain ⟨vv, hv1, hv2, hv3, hv4⟩ := ntd.moved (by omega) hup32
  obtain ⟨uu, hu1, hu2, hu3, hu4⟩ := ntm.moved (by omega) hup32
  rw [hln] at hv4
  have hum : uu.length = L m + 1 := hu4
  -- the divisor fits into its limbs still
  have hdB : (d : Int) < (x + 1) * B ^ (n - 1) := by
    have h1 := V_take_succ' (lim d) (n - 1)
    rw [show n - 1 + 1 = n by omega, List.take_of_length_le (by omega), V_lim, hx] at h1
    have h2 := V_bounds (Lim_lim d) (n - 1) (by omega)
    rw [Int.add_mul, Int.mul_comm x]
    omega
  have hxup : (x + 1) * 2 ^ up ≤ B := by
    have h1 : x + 1 ≤ 2 ^ bl := by
      have := hbl.lt
      have h2 : ((x.toNat : Nat) : Int) < ((2 ^ bl : Nat) : Int) := by exact_mod_cast this
      rw [Int.natCast_pow] at h2
      have : (2 : Int) ^ bl = ((2 : Nat) : Int) ^ bl := rfl
      omega
    have h2 : (x + 1) * 2 ^ up ≤ 2 ^ bl * 2 ^ up := Int.mul_le_mul_of_nonneg_right h1 (Int.le_of_lt (Int.pow_pos (by omega)))
    rw [← Int.pow_add, show bl + up = 32 by omega] at h2
    exact h2
  have hp0 : (0 : Int) < 2 ^ up := Int.pow_pos (by omega)
  have hvB : ((d * 2 ^ up : Nat) : Int) < B ^ n := by
    have h1 : (d : Int) * 2 ^ up < (x + 1) * B ^ (n - 1) * 2 ^ up := Int.mul_lt_mul_of_pos_right hdB hp0
    have h2 : (x + 1) * 2 ^ up * B ^ (n - 1) ≤ B * B ^ (n - 1) := Int.mul_le_mul_of_nonneg_right hxup (Int.le_of_lt (Bpow_pos _))
    have h3 : (x + 1) * B ^ (n - 1) * 2 ^ up = (x + 1) * 2 ^ up * B ^ (n - 1) := by rw [Int.mul_assoc, Int.mul_assoc, Int.mul_comm (B ^ (n - 1))]
    have h4 : B ^ n = B * B ^ (n - 1) := by
      have this : B ^ (n - 1 + 1) = B ^ (n - 1) * B := Int.pow_succ _ _
      rw [show n - 1 + 1 = n by omega] at this
      rw [this, Int.mul_comm]
    rw [Int.natCast_mul, Int.natCast_pow]
    show (d : Int) * 2 ^ up < _
    omega
  have hv5 : V (vv.take n) = ((d * 2 ^ up : Nat) : Int) := by
    have h1 := V_split vv n (by omega)
    have h2 := drop_zero_of_lt hv2 (m := n) (by omega) (by rw [hv3]; exact hvB)
    rw [h2, hv3] at h1
    omega
  have hlv : (vv.take n).length = n := by simp; omega
  have hLv := hv2.take n
  generalize hvn : vv.take n = v at *
  generalize hDD : d * 2 ^ up = D at *
  have hD0 : 0 < D := by rw [← hDD]; exact Nat.mul_pos (by omega) (Nat.pow_pos (by omega))
  -- the top limb of the divisor
  have htop : 0 < nthD 0 v (n - 1) := by
    have h1 := V_take_succ' v (n - 1)
    rw [show n - 1 + 1 = n by omega, List.take_of_length_le (by omega), hv5] at h1
    have h2 := V_bounds hLv (n - 1) (by omega)
    have h3 : B ^ (n - 1) ≤ D := by
      have h4 : (d : Int) ≤ D := by
        have : d * 1 ≤ d * 2 ^ up := Nat.mul_le_mul_left _ (Nat.pow_pos (by omega))
        omega
      omega
    have h4 := hLv.get' (n - 1)
    rcases (show nthD 0 v (n - 1) = 0 ∨ 0 < nthD 0 v (n - 1) by omega) with h5 | h5
    · rw [h5] at h1; omega
    · exact h5
  have hsum : ((m * 2 ^ up : Nat) : Int) < B ^ (L m - n + 1) * D := by
    have h1 : (m : Int) < B ^ L m := by
      have := V_lt (Lim_lim m)
      rw [V_lim] at this
      exact this
    have h2 : B ^ L m ≤ B ^ (L m - n + 1) * d := by
      have h3 : B ^ (L m - n + 1) * B ^ (n - 1) ≤ B ^ (L m - n + 1) * d := Int.mul_le_mul_of_nonneg_left ht.2.2.1 (Int.le_of_lt (Bpow_pos _))
      rw [← Int.pow_add, show L m - n + 1 + (n - 1) = L m by omega] at h3
      exact h3
    have h3 : (m : Int) * 2 ^ up < B ^ (L m - n + 1) * d * 2 ^ up := Int.mul_lt_mul_of_pos_right (by omega) hp0
    rw [← hDD, Int.natCast_mul, Int.natCast_mul, Int.natCast_pow, ← Int.mul_assoc]
    exact h3
  -- the loop
  have loop : ∀ (j : Nat) (u q : List Int), j ≤ L m - n + 1 → Lim u → u.length = L m + 1 → Lim q → q.length = L m + 1 - n → (∀ i, i < j → nthD 0 q i = 0) → V u < B ^ j * D → V u + V q * D = ((m * 2 ^ up : Nat) : Int) →
      Ev (fun k => nat_long.p0 k u q (up : Int) v (n : Int) ((j : Int) - 1)) (lim (m / d), lim (m % d)) := by
    intro j
    induction j with
    | zero =>
      intro u q _ hu hul hq hql hz hlt hs
      simp only [Int.pow_zero, Int.one_mul] at hlt
      have hu0 := V_nonneg hu
      have hq0 := V_nonneg hq
      obtain ⟨U, hU⟩ : ∃ U : Nat, V u = U := ⟨(V u).toNat, by omega⟩
      obtain ⟨Q, hQ⟩ : ∃ Q : Nat, V q = Q := ⟨(V q).toNat, by omega⟩
      rw [hU] at hlt
      have hs2 : U + Q * D = m * 2 ^ up := by rw [hU, hQ] at hs; exact_mod_cast hs
      have hlt2 : U < D := by exact_mod_cast hlt
      have hQd : m / d = Q := by
        have h1 : (m * 2 ^ up) / D = Q := by
          rw [← hs2, Nat.add_mul_div_right _ _ hD0, Nat.div_eq_of_lt hlt2]; simp
        rw [← hDD, Nat.mul_div_mul_right _ _ (Nat.pow_pos (by omega))] at h1
        exact h1
      have hUd : U = (m % d) * 2 ^ up := by
        have h1 : (m * 2 ^ up) % D = U := by
          rw [← hs2, Nat.add_mul_mod_self_right, Nat.mod_eq_of_lt hlt2]
        rw [← hDD, Nat.mul_mod_mul_right] at h1
        exact h1.symm
      have hzn : V (u.drop n) = 0 := drop_zero_of_lt hu (by omega) (by rw [hU]; omega)
      refine Ev.turn (fun k => nat_long.p0_succ k _ _ _ _ _ _) ?_
      unfold nat_long.e0
      refine Ev.fls (by simp) (Ev.tru (by simp; omega) ?_)
      have hun : nthD 0 u n = 0 := by
        have h1 := V_take_succ' u n
        have h2 := V_split u n (by omega)
        have h3 := V_split u (n + 1) (by omega)
        have h4 := V_nonneg (hu.drop (n + 1))
        have h5 := hu.get' n
        rw [hzn] at h2
        rw [h1] at h3
        have h6 : 0 ≤ B ^ (n + 1) * V (u.drop (n + 1)) := Int.mul_nonneg (Int.le_of_lt (Bpow_pos _)) h4
        rcases (show nthD 0 u n = 0 ∨ 1 ≤ nthD 0 u n by omega) with h7 | h7
        · exact h7
        · have h8 : B ^ n * 1 ≤ B ^ n * nthD 0 u n := Int.mul_le_mul_of_nonneg_left h7 (Int.le_of_lt (Bpow_pos _))
          have := Bpow_pos n
          omega
      have hu00 : nthD 0 u 0 % 2 ^ up = 0 := by
        have h1 : V u = nthD 0 u 0 + B * V (u.drop 1) := by
          cases u with
          | nil => simp at hul
          | cons y ys => simp [V, nthD]
        have hp : B = 2 ^ up * 2 ^ (32 - up) := by rw [← Int.pow_add, show up + (32 - up) = 32 by omega]; rfl
        have h2 : nthD 0 u 0 = 2 ^ up * ((m % d : Nat) - 2 ^ (32 - up) * V (u.drop 1)) := by
          have hUc : (U : Int) = ((m % d : Nat) : Int) * 2 ^ up := by rw [hUd, Int.natCast_mul, Int.natCast_pow]; rfl
          rw [hU, hUc, hp] at h1
          generalize V (u.drop 1) = Z at *
          generalize ((m % d : Nat) : Int) = A at *
          generalize nthD 0 u 0 = w at *
          generalize (2 : Int) ^ up = X at *
          generalize (2 : Int) ^ (32 - up) = Y at *
          grind
        rw [h2]
        exact Int.mul_emod_right _ _
      have := long_p4 u q up n hup32 hu (by omega) (by omega) hun hu00 (lim (m / d), lim (m % d)) ?_ n 0 (List.replicate n 0) (by omega) (by simp) (Lim_replicate_zero _) (by simp [V, hu00])
      · simpa using this
      · intro r hr hlr hVr
        have h1 : V (u.take n) = U := by
          have h2 := V_split u n (by omega)
          rw [hzn, hU] at h2
          omega
        rw [h1, hUd, Int.natCast_mul, Int.natCast_pow] at hVr
        have h2 : V r = ((m % d : Nat) : Int) := Int.eq_of_mul_eq_mul_right (show (2 : Int) ^ up ≠ 0 by omega) hVr
        have n1 : Nt (L m + 1) q (m / d) := ⟨hq, by rw [hQ, hQd], by omega⟩
        have n2 : Nt n r (m % d) := ⟨hlr, h2, by omega⟩
        exact Ev.bind (n1.own (by omega)) (Ev.bind (n2.own (by omega)) Ev.pure)
    | succ j ih =>
      intro u q hj hu hul hq hql hz hlt hs
      have hu0 := V_nonneg hu
      obtain ⟨U, hU⟩ : ∃ U : Nat, V u = U := ⟨(V u).toNat, by omega⟩
      have hY : 0 < B ^ j * (D : Int) := Int.mul_pos (Bpow_pos j) (by omega)
      generalize hqd : V u / (B ^ j * (D : Int)) = qd
      have hqd0 : 0 ≤ qd := by rw [← hqd]; exact Int.ediv_nonneg hu0 (by omega)
      have hqm := Int.emod_add_mul_ediv (V u) (B ^ j * (D : Int))
      have hm0 := Int.emod_nonneg (V u) (show B ^ j * (D : Int) ≠ 0 by omega)
      have hm1 := Int.emod_lt_of_pos (V u) hY
      rw [hqd] at hqm
      have hcm : qd * (B ^ j * (D : Int)) = B ^ j * (D : Int) * qd := Int.mul_comm _ _
      have dig : Dig u v j n qd := ⟨hu, hLv, hlv, hd, by omega, by omega, htop, by rw [hv5]; exact hlt, hqd0, by rw [hv5]; omega, by rw [hv5, Int.add_mul]; omega⟩
      have hqB := dig.q_lt
      obtain ⟨u', h1, h2, h3, h4⟩ := dig.ev
      rw [hv5] at h4
      refine Ev.turn (fun k => nat_long.p0_succ k _ _ _ _ _ _) ?_
      unfold nat_long.e0
      have e0 : ((j + 1 : Nat) : Int) - 1 = (j : Int) := by omega
      have e1 : IntKind.i64.wrap ((j : Int) + (n : Int)) = ((j + n : Nat) : Int) := by rw [wrap_i64 (by omega) (by omega)]; omega
      have e2 : IntKind.i64.wrap (((j + n : Nat) : Int) + 1) = ((j + n + 1 : Nat) : Int) := by rw [wrap_i64 (by omega) (by omega)]; omega
      have e3 : (((j + n + 1 : Nat) : Int) - (j : Int)).toNat = n + 1 := by omega
      have e4 : IntKind.i64.wrap ((j : Int) - 1) = (j : Int) - 1 := wrap_i64 (by omega) (by omega)
      simp only [e0, e1, e2, e3, e4, Int.toNat_natCast]
      refine Ev.tru (by simp) (Ev.tru (by simp; omega) (Ev.tru (by simp; omega) (Ev.bind h1 (Ev.tru (by simp; omega) ?_))))
      refine ih u' (setN qd q j) (by omega) h2 (by omega) (hq.set ⟨hqd0, hqB⟩) (by rw [length_setN]; exact hql) (fun i hi => by rw [nthD_setN, if_neg (by omega)]; exact hz i (by omega)) ?_ ?_
      · have : qd * (B ^ j * (D : Int)) = B ^ j * (D : Int) * qd := Int.mul_comm _ _
        omega
      · rw [V_setN _ _ _ (by omega), hz j (by omega), h4, ← hs]
        grind
  unfold nat_long.f nat_long.e
  have e1 : IntKind.i64.wrap ((n : Int) - 1) = ((n - 1 : Nat) : Int) := by rw [wrap_i64 (by omega) (by omega)]; omega
  have hx2 : x = (x.toNat : Int) := by omega
  simp only [hln, e1, Int.toNat_natCast, hx]
  refine Ev.tru (by simp; omega) ?_
  have hlz : Ev (fun k => bits_LeadingZeros32.f k x) (up : Int) := by
    unfold bits_LeadingZeros32.f bits_LeadingZeros32.e
    rw [hx2]
    refine Ev.bind hlen ?_
    rw [wrap_i64 (by omega) (by omega), show (32 : Int) - (bl : Int) = (up : Int) by omega]
    exact Ev.pure
  refine Ev.bind hlz (Ev.bind hv1 ?_)
  refine Ev.tru (by simp; omega) (Ev.bind hu1 ?_)
  have e5 : (List.drop (Int.toNat 0) (List.take n vv)) = v := by rw [hvn]; rfl
  simp only [e5, hlv]
  have e6 : IntKind.i64.wrap ((uu.length : Int) - (n : Int)) = ((L m + 1 - n : Nat) : Int) := by rw [wrap_i64 (by omega) (by omega)]; omega
  simp only [e6, Int.toNat_natCast]
  refine Ev.tru (by simp; omega) ?_
  have e7 : IntKind.i64.wrap (((L m + 1 - n : Nat) : Int) - 1) = ((L m - n + 1 : Nat) : Int) - 1 := by rw [wrap_i64 (by omega) (by omega)]; omega
  rw [e7]
  exact loop (L m - n + 1) uu _ (Nat.le_refl _) hu2 hum (Lim_replicate_zero _) (by simp) (fun i _ => nthD_zeros _ i) (by rw [hu3]; exact hsum) (by rw [V_replicate_zero, hu3]; simp)

end Go.FK


/- The plain law: Div, Gcd; whole numbers. -/
namespace Go.FK

theorem lim_single {x : Nat} (h0 : x ≠ 0) (h : x < 4294967296) : lim x = [(x : Int)] := by
  rw [lim_pos h0, Nat.mod_eq_of_lt h, Nat.div_eq_of_lt h, lim_zero]
theorem Nt.one {x : Int} (h : 0 ≤ x ∧ x < B) : Nt 1 [x] x.toNat := ⟨Lim.mk h Lim.nil, by simp [V]; omega, by simp⟩

theorem Nt.div {M m n : Nat} {a b : List Int} (ha : Nt M a m) (hb : Nt M b n) (hM : M ≤ 17592186044415) (hn : n ≠ 0) : Ev (fun k => nat_Div.f k a b) (FK.lim (m / n), FK.lim (m % n), (0 : Int)) := by
  have lm := ha.L
  have ln := hb.L
  have hn1 := L_pos hn
  unfold nat_Div.f nat_Div.e
  refine Ev.bind (ha.trim (by omega)) (Ev.bind (hb.trim (by omega)) ?_)
  have am : Nt M (FK.lim m) m := Nt.of lm
  have bn : Nt M (FK.lim n) n := Nt.of ln
  refine Ev.fls (dec_f (by unfold FK.L at hn1; omega)) (Ev.bind (am.cmp bn (by omega)) ?_)
  by_cases hlt : m < n
  · rw [sgn_lt (by omega)]
    refine Ev.tru (by simp) (Ev.bind (am.own (by omega)) ?_)
    rw [Nat.div_eq_of_lt hlt, Nat.mod_eq_of_lt hlt, lim_zero]
    exact Ev.pure
  · have hsg : ¬ sgn (m : Int) n < 0 := by
      unfold sgn
      by_cases h1 : (m : Int) = n
      · rw [if_neg (by omega), if_pos h1]; omega
      · rw [if_neg (by omega), if_neg h1]; omega
    refine Ev.fls (dec_f hsg) ?_
    by_cases h1 : FK.L n = 1
    · refine Ev.tru (dec_t (by unfold FK.L at h1; omega)) (Ev.tru (dec_t (by unfold FK.L at h1; omega)) ?_)
      have hnB : n < 4294967296 := by have := L_lt n; rw [h1] at this; omega
      have e : nthD 0 (FK.lim n) 0 = (n : Int) := by rw [lim_single hn hnB]; rfl
      rw [e]
      obtain ⟨q, hq1, hq2⟩ := am.short (b := n) (by omega) (by omega) (by simp only [B]; omega)
      have hmod := Nat.mod_lt m (show 0 < n by omega)
      refine Ev.bind hq1 (Ev.bind (hq2.own (by omega)) ?_)
      have o := Nt.one (x := ((m % n : Nat) : Int)) (by simp only [B]; omega)
      have := o.own (by omega)
      simp only [Int.toNat_natCast] at this
      exact Ev.bind this Ev.pure
    · refine Ev.fls (dec_f (by unfold FK.L at h1; omega)) ?_
      have hl : FK.L n ≤ FK.L m := L_mono (by omega)
      exact Ev.bind (long_ev (by omega) hl (by omega)) Ev.pure

theorem Gcd_p0 (M : Nat) (hM : M ≤ 17592186044415) : ∀ (n m : Nat), L m ≤ M → L n ≤ M → Ev (fun k => nat_Gcd.p0 k (lim m) (lim n)) (lim (Nat.gcd m n)) := by
  intro n
  induction n using Nat.strongRecOn with
  | _ n ih =>
    intro m hm hn
    refine Ev.turn (fun k => nat_Gcd.p0_succ k _ _) ?_
    unfold nat_Gcd.e0
    by_cases h : n = 0
    · subst h
      rw [lim_zero]
      refine Ev.fls (by simp) ?_
      rw [Nat.gcd_zero_right]
      exact Ev.pure
    · have := L_pos h
      refine Ev.tru (dec_t (by unfold FK.L at this; omega)) ?_
      refine Ev.bind (Nt.div (Nt.of hm) (Nt.of hn) (by omega) h) ?_
      have hlt := Nat.mod_lt m (show 0 < n by omega)
      have := ih (m % n) hlt n hn (Nat.le_trans (L_mono (Nat.le_of_lt hlt)) hn)
      rw [Nat.gcd_comm n (m % n), ← Nat.gcd_rec, Nat.gcd_comm] at this
      exact this

theorem Nt.gcd {M m n : Nat} {a b : List Int} (ha : Nt M a m) (hb : Nt M b n) (hM : M ≤ 17592186044415) : Ev (fun k => nat_Gcd.f k a b) (FK.lim (Nat.gcd m n)) := by
  unfold nat_Gcd.f nat_Gcd.e
  exact Ev.bind (ha.own (by omega)) (Ev.bind (hb.own (by omega)) (Gcd_p0 M hM n m ha.L hb.L))

theorem Nt.Norm {M m : Nat} {a : List Int} (ha : Nt M a m) (hM : M ≤ 17592186044415) : Ev (fun k => nat_Norm.f k a) (FK.lim m) := Ev.bind (ha.own (by omega)) Ev.pure

theorem nat_Of_ev {n : Int} (h : 0 ≤ n ∧ n < 18446744073709551616) : Ev (fun k => nat_Of.f k n) (lim n.toNat) := by
  unfold nat_Of.f nat_Of.e
  have e1 : IntKind.u32.wrap n = n % 4294967296 := wrap_u32 n
  have e2 : IntKind.u32.wrap (Int.fdiv n (2 ^ 32)) = n / 4294967296 := by
    rw [Int.fdiv_eq_ediv_of_nonneg _ (by omega), wrap_u32]; omega
  rw [e1, e2]
  have o : Nt 2 [n % 4294967296, n / 4294967296] n.toNat := ⟨Lim.mk (by simp only [B]; omega) (Lim.mk (by simp only [B]; omega) Lim.nil), by simp only [V, B]; omega, by simp⟩
  exact Ev.bind (o.own (by omega)) Ev.pure

/-! ### Whole numbers -/
theorem core_p9 (a : List Int) (n : Nat) (h : n ≤ a.length) : Ev (fun k => whole_core.p9 k a (n : Int)) (a.take n) := by
  refine Ev.turn (fun k => whole_core.p9_succ k a n) ?_
  unfold whole_core.e9
  refine Ev.tru (by simp; omega) ?_
  have : (List.take (Int.toNat (n : Int)) a).drop (Int.toNat 0) = a.take n := by simp
  rw [this]
  exact Ev.pure
theorem core_p0 (a : List Int) : ∀ (n : Nat), n ≤ a.length → n ≤ 9223372036854775807 → Ev (fun k => whole_core.p0 k a (n : Int)) (norm (a.take n)) := by
  intro n
  induction n with
  | zero =>
    intro h _
    refine Ev.turn (fun k => whole_core.p0_succ k a _) ?_
    unfold whole_core.e0
    refine Ev.fls (by simp) ?_
    simpa [norm] using core_p9 a 0 h
  | succ n ih =>
    intro h hb
    refine Ev.turn (fun k => whole_core.p0_succ k a _) ?_
    unfold whole_core.e0
    have e : IntKind.i64.wrap (((n + 1 : Nat) : Int) - 1) = (n : Int) := by rw [wrap_i64 (by omega) (by omega)]; omega
    simp only [e]
    refine Ev.tru (by simp) ?_
    refine Ev.tru (by simp; omega) ?_
    rw [take_succ_get (by omega)]
    by_cases h0 : nthD 0 a n = 0
    · refine Ev.tru (by simp [h0]) ?_
      rw [h0, norm_snoc_zero]
      exact ih (by omega) (by omega)
    · refine Ev.fls (by simp [h0]) ?_
      rw [norm_snoc_ne _ h0, ← take_succ_get (by omega)]
      exact core_p9 a (n + 1) h
theorem Nt.core {M n : Nat} {a : List Int} (h : Nt M a n) (hM : M ≤ 17592186044415) : Ev (fun k => whole_core.f k a) (FK.lim n) := by
  have := core_p0 a a.length (Nat.le_refl _) (by have := h.len; omega)
  rw [List.take_length, h.norm] at this
  exact this

theorem lim_nil_iff (n : Nat) : lim n = [] ↔ n = 0 := by
  constructor
  · intro h
    apply L_eq_zero
    unfold L
    rw [h]; rfl
  · intro h
    rw [h, lim_zero]

theorem Zt.sign {M : Nat} {a : Bool × List Int} {z : Int} (h : Zt M a z) (hM : M ≤ 17592186044415) : Ev (fun k => whole_Sign.f k a) z.sign := by
  unfold whole_Sign.f whole_Sign.e
  refine Ev.bind (h.nt.core hM) ?_
  by_cases h0 : z = 0
  · subst h0
    simp only [Int.natAbs_zero, lim_zero]
    exact Ev.tru (by simp) Ev.pure
  · refine Ev.fls (dec_f (by have := L_pos (n := z.natAbs) (by omega); unfold FK.L at this; omega)) ?_
    have hv := h.val
    have hp := V_nonneg h.lim
    unfold Zv at hv
    by_cases hs : a.1 = true
    · refine Ev.tru hs ?_
      rw [if_pos hs] at hv
      rw [Int.sign_eq_neg_one_of_neg (by omega)]
      exact Ev.pure
    · rw [if_neg hs] at hv
      refine Ev.fls (by simpa using hs) ?_
      rw [Int.sign_eq_one_of_pos (by omega)]
      exact Ev.pure

theorem sign_cases (z : Int) : z.sign = -1 ∨ z.sign = 0 ∨ z.sign = 1 := by
  rcases Int.lt_trichotomy z 0 with h | h | h
  · exact Or.inl (Int.sign_eq_neg_one_of_neg h)
  · exact Or.inr (Or.inl (by rw [h]; rfl))
  · exact Or.inr (Or.inr (Int.sign_eq_one_of_pos h))

/-- The product of some signs. -/
def prodL : List Int → Int
  | [] => 1
  | x :: xs => x * prodL xs

theorem signed_p0 (n : Nat) (l : List Int) (hl : l.length ≤ 1000) (hs : ∀ x ∈ l, x = -1 ∨ x = 0 ∨ x = 1) (w : Bool × List Int) : ∀ (m i : Nat) (s : Int), m + i = l.length → (s = -1 ∨ s = 0 ∨ s = 1) →
    Ev (fun k => whole_signed.p0 k w (lim n) s l (l.length : Int) (i : Int)) (decide (s * prodL (l.drop i) < 0 ∧ n ≠ 0), lim n) := by
  intro m
  induction m with
  | zero =>
    intro i s hi h1
    have hi : i = l.length := by omega
    subst hi
    rw [List.drop_of_length_le (Nat.le_refl _)]
    simp only [prodL, Int.mul_one]
    refine Ev.turn (fun k => whole_signed.p0_succ k _ _ _ _ _ _) ?_
    unfold whole_signed.e0
    refine Ev.fls (by simp) ?_
    by_cases h2 : s < 0
    · refine Ev.tru (dec_t h2) ?_
      have : decide (((lim n).length : Int) > 0) = decide (s < 0 ∧ n ≠ 0) := by
        by_cases h3 : n = 0
        · subst h3; simp [lim_zero]
        · have := L_pos h3
          unfold L at this
          rw [dec_t (by omega), dec_t ⟨h2, h3⟩]
      rw [this]
      exact Ev.pure
    · refine Ev.fls (dec_f h2) ?_
      rw [dec_f (fun h => h2 h.1)]
      exact Ev.pure
  | succ m ih =>
    intro i s hi h1
    refine Ev.turn (fun k => whole_signed.p0_succ k _ _ _ _ _ _) ?_
    unfold whole_signed.e0
    have e1 : IntKind.i64.wrap ((i : Int) + 1) = ((i + 1 : Nat) : Int) := by rw [wrap_i64 (by omega) (by omega)]; omega
    have hd : l.drop i = nthD 0 l i :: l.drop (i + 1) := by
      rw [List.drop_eq_getElem_cons (by omega), nthD_eq, List.getD_eq_getElem?_getD]
      simp [show i < l.length by omega]
    have hx : nthD 0 l i = -1 ∨ nthD 0 l i = 0 ∨ nthD 0 l i = 1 := hs _ (List.mem_of_mem_drop (by rw [hd]; exact List.mem_cons_self))
    have hy : s * nthD 0 l i = -1 ∨ s * nthD 0 l i = 0 ∨ s * nthD 0 l i = 1 := by
      rcases h1 with rfl | rfl | rfl <;> rcases hx with h | h | h <;> rw [h] <;> decide
    have e2 : IntKind.i64.wrap (s * nthD 0 l i) = s * nthD 0 l i := wrap_i64 (by omega) (by omega)
    simp only [Int.toNat_natCast, e1, e2]
    simp (disch := omega) only [dec_t, cond_true, Bool.and_true]
    have := ih (i + 1) (s * nthD 0 l i) (by omega) hy
    simp only [hd, prodL, ← Int.mul_assoc]
    exact this

theorem Nt.signed {M n : Nat} {a : List Int} (h : Nt M a n) (hM : M ≤ 17592186044415) (l : List Int) (hl : l.length ≤ 1000) (hs : ∀ x ∈ l, x = -1 ∨ x = 0 ∨ x = 1) : Ev (fun k => whole_signed.f k a l) (decide (prodL l < 0 ∧ n ≠ 0), FK.lim n) := by
  unfold whole_signed.f whole_signed.e
  refine Ev.bind (h.Norm hM) ?_
  have := signed_p0 n l hl hs (false, []) l.length 0 1 (by omega) (by omega)
  simp only [List.drop_zero, Int.one_mul] at this
  exact this

/-- A size with a sign. -/
theorem Nt.signed1 {M n : Nat} {a : List Int} (h : Nt M a n) (hM : M ≤ 17592186044415) {s z : Int} (hs : s = -1 ∨ s = 0 ∨ s = 1) (hn : n = z.natAbs) (hz : z < 0 ↔ (s < 0 ∧ n ≠ 0)) : Ev (fun k => whole_signed.f k a [s]) (int z) := by
  have := h.signed hM [s] (by simp) (by simpa using hs)
  simp only [prodL, Int.mul_one] at this
  rw [← decide_eq_decide.2 hz, hn] at this
  exact this
theorem Nt.signed2 {M n : Nat} {a : List Int} (h : Nt M a n) (hM : M ≤ 17592186044415) {s t z : Int} (hs : s = -1 ∨ s = 0 ∨ s = 1) (ht : t = -1 ∨ t = 0 ∨ t = 1) (hn : n = z.natAbs) (hz : z < 0 ↔ (s * t < 0 ∧ n ≠ 0)) : Ev (fun k => whole_signed.f k a [s, t]) (int z) := by
  have := h.signed hM [s, t] (by simp) (by
    intro x hx
    simp only [List.mem_cons, List.not_mem_nil, or_false] at hx
    rcases hx with rfl | rfl
    · exact hs
    · exact ht)
  simp only [prodL, Int.mul_one] at this
  rw [← decide_eq_decide.2 hz, hn] at this
  exact this

theorem sign_neg_iff (z : Int) : z.sign < 0 ↔ z < 0 := by
  rcases Int.lt_trichotomy z 0 with h | h | h
  · rw [Int.sign_eq_neg_one_of_neg h]; omega
  · rw [h]; decide
  · rw [Int.sign_eq_one_of_pos h]; omega

theorem Zt.norm {M : Nat} {a : Bool × List Int} {z : Int} (h : Zt M a z) (hM : M ≤ 17592186044415) : Ev (fun k => whole_Norm.f k a) (int z) := by
  unfold whole_Norm.f whole_Norm.e
  exact Ev.bind (h.sign hM) (Ev.bind (h.nt.signed1 hM (sign_cases z) rfl (by rw [sign_neg_iff]; omega)) Ev.pure)

theorem Zt.neg {M : Nat} {a : Bool × List Int} {z : Int} (h : Zt M a z) (hM : M ≤ 17592186044415) : Ev (fun k => whole_Neg.f k a) (int (-z)) := by
  unfold whole_Neg.f whole_Neg.e
  refine Ev.bind (h.sign hM) (Ev.bind (h.nt.signed2 hM (by omega) (sign_cases z) (by omega) ?_) Ev.pure)
  have := sign_neg_iff (-z)
  rw [Int.sign_neg] at this
  have e : (-1 : Int) * z.sign = -z.sign := by omega
  rw [e, this]
  omega

theorem Zt.mul {M : Nat} {a b : Bool × List Int} {y z : Int} (ha : Zt M a y) (hb : Zt M b z) (hM : M ≤ 8796093022207) : Ev (fun k => whole_Mul.f k a b) (int (y * z)) := by
  unfold whole_Mul.f whole_Mul.e
  have hm := ha.nt.mul hb.nt (by omega)
  have hL := L_mul y.natAbs z.natAbs
  have la := ha.nt.L
  have lb := hb.nt.L
  have n1 : Nt (2 * M) (FK.lim (y.natAbs * z.natAbs)) (y.natAbs * z.natAbs) := Nt.of (by omega)
  refine Ev.bind hm (Ev.bind (ha.sign (by omega)) (Ev.bind (hb.sign (by omega)) (Ev.bind (n1.signed2 (by omega) (sign_cases y) (sign_cases z) (by rw [Int.natAbs_mul]) ?_) Ev.pure)))
  rw [← Int.sign_mul, sign_neg_iff, ← Int.natAbs_mul]
  omega

theorem or_signs {x y : Int} (hx : x = -1 ∨ x = 0 ∨ x = 1) (hy : y = -1 ∨ y = 0 ∨ y = 1) (h : 0 ≤ x * y) : bitsI .or .i64 (bitsI .or .i64 x y) 1 = if x < 0 ∨ y < 0 then -1 else 1 := by
  rcases hx with rfl | rfl | rfl <;> rcases hy with rfl | rfl | rfl <;> first | (exfalso; revert h; decide) | decide

theorem Zt.add {M : Nat} {a b : Bool × List Int} {y z : Int} (ha : Zt M a y) (hb : Zt M b z) (hM : M ≤ 8796093022207) : Ev (fun k => whole_Add.f k a b) (int (y + z)) := by
  unfold whole_Add.f whole_Add.e
  have la := ha.nt.L
  have lb := hb.nt.L
  have hsy := sign_cases y
  have hsz := sign_cases z
  have hny := sign_neg_iff y
  have hnz := sign_neg_iff z
  have hzy := Int.sign_eq_zero_iff_zero (a := y)
  have hzz := Int.sign_eq_zero_iff_zero (a := z)
  refine Ev.bind (ha.sign (by omega)) (Ev.bind (hb.sign (by omega)) ?_)
  have e1 : IntKind.i64.wrap (y.sign * z.sign) = y.sign * z.sign := by
    have : y.sign * z.sign = -1 ∨ y.sign * z.sign = 0 ∨ y.sign * z.sign = 1 := by rw [← Int.sign_mul]; exact sign_cases _
    exact wrap_i64 (by omega) (by omega)
  rw [e1]
  by_cases hs : 0 ≤ y.sign * z.sign
  · refine Ev.tru (dec_t hs) (Ev.bind (ha.nt.add hb.nt (by omega)) ?_)
    have hL := L_add y.natAbs z.natAbs
    have n1 : Nt (M + 1) (FK.lim (y.natAbs + z.natAbs)) (y.natAbs + z.natAbs) := Nt.of (by omega)
    rw [or_signs hsy hsz hs]
    have hcase : (0 ≤ y ∧ 0 ≤ z) ∨ (y ≤ 0 ∧ z ≤ 0) := by
      rw [← Int.sign_mul] at hs
      have h2 := sign_neg_iff (y * z)
      have h3 : 0 ≤ y * z := by omega
      rcases Int.lt_trichotomy y 0 with h | h | h
      · right
        refine ⟨by omega, Int.not_lt.1 fun h4 => ?_⟩
        have := Int.mul_neg_of_neg_of_pos h h4
        omega
      · omega
      · left
        refine ⟨by omega, Int.not_lt.1 fun h4 => ?_⟩
        have := Int.mul_neg_of_pos_of_neg h h4
        omega
    refine Ev.bind (n1.signed1 (by omega) (by split <;> omega) (by omega) ?_) Ev.pure
    split <;> omega
  · refine Ev.fls (dec_f hs) (Ev.bind (ha.nt.cmp hb.nt (by omega)) ?_)
    have hcase : (y < 0 ∧ 0 < z) ∨ (0 < y ∧ z < 0) := by
      rcases hsy with h1 | h1 | h1 <;> rcases hsz with h2 | h2 | h2 <;> rw [h1, h2] at hs <;> first | (exfalso; revert hs; decide) | omega
    by_cases hge : z.natAbs ≤ y.natAbs
    · refine Ev.tru (dec_t ?_) ?_
      · unfold sgn
        by_cases h1 : ((y.natAbs : Nat) : Int) = (z.natAbs : Nat)
        · rw [if_neg (by omega), if_pos h1]; omega
        · rw [if_neg (by omega), if_neg h1]; omega
      refine Ev.bind (ha.nt.sub hb.nt (by omega) hge) ?_
      have n1 : Nt M (FK.lim (y.natAbs - z.natAbs)) (y.natAbs - z.natAbs) := Nt.of (Nat.le_trans (L_sub _ _) la)
      exact Ev.bind (n1.signed1 (by omega) hsy (by omega) (by rw [hny]; omega)) Ev.pure
    · refine Ev.fls (dec_f ?_) ?_
      · rw [sgn_lt (by omega)]; omega
      refine Ev.bind (hb.nt.sub ha.nt (by omega) (by omega)) ?_
      have n1 : Nt M (FK.lim (z.natAbs - y.natAbs)) (z.natAbs - y.natAbs) := Nt.of (Nat.le_trans (L_sub _ _) lb)
      exact Ev.bind (n1.signed1 (by omega) hsz (by omega) (by rw [hnz]; omega)) Ev.pure

theorem Zt.sub {M : Nat} {a b : Bool × List Int} {y z : Int} (ha : Zt M a y) (hb : Zt M b z) (hM : M ≤ 8796093022207) : Ev (fun k => whole_Sub.f k a b) (int (y - z)) := by
  unfold whole_Sub.f whole_Sub.e
  have h1 : Zt M (int (-z)) (-z) := Zt.of (by rw [LZ_neg]; exact hb.LZ)
  have := ha.add h1 hM
  rw [← Int.sub_eq_add_neg] at this
  exact Ev.bind (hb.neg (by omega)) (Ev.bind this Ev.pure)

theorem Zt.cmp {M : Nat} {a b : Bool × List Int} {y z : Int} (ha : Zt M a y) (hb : Zt M b z) (hM : M ≤ 8796093022207) : Ev (fun k => whole_Cmp.f k a b) (y - z).sign := by
  unfold whole_Cmp.f whole_Cmp.e
  have h1 : Zt (M + 1) (int (y - z)) (y - z) := Zt.of (by have := LZ_sub y z; have := ha.LZ; have := hb.LZ; omega)
  exact Ev.bind (ha.sub hb hM) (Ev.bind (h1.sign (by omega)) Ev.pure)

theorem whole_Of_ev {n : Int} (h : -9223372036854775808 ≤ n ∧ n ≤ 9223372036854775807) : Ev (fun k => whole_Of.f k n) (int n) := by
  unfold whole_Of.f whole_Of.e
  have hL : LZ n ≤ 2 := L_le (by omega)
  have n1 : Nt 2 (lim n.natAbs) n.natAbs := Nt.of hL
  by_cases h0 : n < 0
  · have e1 : IntKind.u64.wrap (0 - IntKind.u64.wrap n) = -n := by simp only [wrap_u64]; omega
    rw [e1]
    have e2 : (-n).toNat = n.natAbs := by omega
    have := nat_Of_ev (n := -n) (by omega)
    rw [e2] at this
    exact Ev.tru (dec_t h0) (Ev.bind this (Ev.bind (n1.signed1 (by omega) (by omega) rfl (by omega)) Ev.pure))
  · have e1 : IntKind.u64.wrap n = n := wrap_u64_id (by omega) (by omega)
    rw [e1]
    have e2 : n.toNat = n.natAbs := by omega
    have := nat_Of_ev (n := n) (by omega)
    rw [e2] at this
    have s := n1.signed (by omega) [] (by simp) (by simp)
    refine Ev.fls (dec_f h0) (Ev.bind this (Ev.bind s ?_))
    have e3 : decide (prodL [] < 0 ∧ n.natAbs ≠ 0) = decide (n < 0) := by rw [dec_f h0, dec_f (by simp [prodL])]
    rw [e3]
    exact Ev.pure

end Go.FK


/- The plain law: rational numbers, the program's. -/
namespace Go.FK

theorem lim_one : lim 1 = [1] := by rw [lim_single (by omega) (by omega)]; rfl
theorem int_zero : int 0 = (false, []) := by simp [int, lim_zero]
theorem rat_zero : rat 0 = ((false, []), [1]) := by
  unfold rat
  show (int 0, lim 1) = _
  rw [int_zero, lim_one]
theorem rat_mkRat (z : Int) {d : Nat} (hd : d ≠ 0) : rat (mkRat z d) = (int (z / (Nat.gcd z.natAbs d : Nat)), lim (d / Nat.gcd z.natAbs d)) := by
  unfold rat
  rw [Rat.num_mkRat, Rat.den_mkRat, if_neg hd, if_neg hd, Nat.gcd_comm]

theorem made_ev {M : Nat} {a : Bool × List Int} {b : List Int} {z : Int} {d : Nat} (ha : Zt M a z) (hb : Nt M b d) (hd : d ≠ 0) (hM : M ≤ 17592186044415) : Ev (fun k => ratio_made.f k a b) (rat (mkRat z d)) := by
  rw [rat_mkRat z hd]
  unfold ratio_made.f ratio_made.e
  have hg0 : Nat.gcd z.natAbs d ≠ 0 := fun h => hd (Nat.eq_zero_of_gcd_eq_zero_right h)
  have la := ha.nt.L
  have lb := hb.L
  have hgL : L (Nat.gcd z.natAbs d) ≤ M := Nat.le_trans (L_mono (Nat.gcd_le_right _ (by omega))) lb
  have hg := ha.nt.gcd hb hM
  have hdv := Nat.gcd_dvd_left z.natAbs d
  generalize Nat.gcd z.natAbs d = g at *
  have ng : Nt M (lim g) g := Nt.of hgL
  refine Ev.bind hg (Ev.bind (ha.nt.div ng hM hg0) (Ev.bind (hb.div ng hM hg0) ?_))
  obtain ⟨c, hc⟩ := hdv
  have hq : z.natAbs / g = c := by rw [hc, Nat.mul_div_cancel_left _ (by omega)]
  have hv := ha.val
  have hp := V_nonneg ha.lim
  have hZ : Zt M (a.1, lim (z.natAbs / g)) (z / (g : Nat)) := by
    refine ⟨Lim_lim _, ?_, Nat.le_trans (L_div _ _) la⟩
    unfold Zv at hv ⊢
    simp only [V_lim]
    rw [hq]
    have hV : V a.2 = (z.natAbs : Int) := by split at hv <;> omega
    split
    · rename_i h
      rw [if_pos h, hV, hc, Int.natCast_mul] at hv
      rw [← hv, ← Int.mul_neg, Int.mul_ediv_cancel_left _ (by omega)]
    · rename_i h
      rw [if_neg h, hV, hc, Int.natCast_mul] at hv
      rw [← hv, Int.mul_ediv_cancel_left _ (by omega)]
  exact Ev.bind (hZ.norm hM) Ev.pure

abbrev RR := (Bool × List Int) × List Int

theorem Rt.norm {M : Nat} {r : RR} {q : Rat} (h : Rt M r q) (hM : M ≤ 17592186044415) : Ev (fun k => ratio_Norm.f k r) (rat q) := by
  unfold ratio_Norm.f ratio_Norm.e
  obtain ⟨b, hb, hb2, hev⟩ := h.nt.bits (by omega)
  refine Ev.bind hev ?_
  rw [← h.val]
  unfold Qv
  by_cases h0 : (V r.2).toNat = 0
  · have := hb.zero h0
    refine Ev.tru (dec_t (by omega)) ?_
    rw [h0, Rat.mkRat_zero, rat_zero]
    exact Ev.pure
  · have := hb.low h0
    refine Ev.fls (dec_f (by omega)) ?_
    exact Ev.bind (made_ev h.zt h.nt h0 hM) Ev.pure

theorem divInt_cases (y z : Int) : (z < 0 → Rat.divInt y z = mkRat (-y) z.natAbs) ∧ (0 ≤ z → Rat.divInt y z = mkRat y z.natAbs) := by
  constructor
  · intro h
    obtain ⟨n, rfl⟩ : ∃ n : Nat, z = -(n : Int) := ⟨z.natAbs, by omega⟩
    rw [Rat.divInt_neg', Rat.divInt_ofNat]
    simp
  · intro h
    obtain ⟨n, rfl⟩ : ∃ n : Nat, z = (n : Int) := ⟨z.natAbs, by omega⟩
    rw [Rat.divInt_ofNat]
    simp

def noRat : RR := ((false, []), [])

theorem Zt.of_zero {M : Nat} {a b : Bool × List Int} {y : Int} (_ha : Zt M a y) (hb : Zt M b 0) (hM : M ≤ 8796093022207) : Ev (fun k => ratio_Of.f k a b) (noRat, (11 : Int)) := by
  unfold ratio_Of.f ratio_Of.e
  refine Ev.bind (hb.sign (by omega)) ?_
  exact Ev.tru (by simp) Ev.pure
theorem Zt.of_ev {M : Nat} {a b : Bool × List Int} {y z : Int} (ha : Zt M a y) (hb : Zt M b z) (hM : M ≤ 8796093022207) (hz : z ≠ 0) : Ev (fun k => ratio_Of.f k a b) (rat (Rat.divInt y z), (0 : Int)) := by
  unfold ratio_Of.f ratio_Of.e
  have hs := sign_neg_iff z
  have hc := divInt_cases y z
  refine Ev.bind (hb.sign (by omega)) ?_
  refine Ev.fls (dec_f (by rw [Int.sign_eq_zero_iff_zero]; exact hz)) (Ev.bind (hb.sign (by omega)) ?_)
  by_cases h : z < 0
  · refine Ev.tru (dec_t (hs.2 h)) (Ev.bind (ha.neg (by omega)) (Ev.turn (fun k => ratio_Of.p11_succ k _ _ _) ?_))
    unfold ratio_Of.e11
    have hn : Zt M (int (-y)) (-y) := Zt.of (by rw [LZ_neg]; exact ha.LZ)
    rw [hc.1 h]
    exact Ev.bind (made_ev hn hb.nt (by omega) (by omega)) Ev.pure
  · refine Ev.fls (dec_f (by rw [hs]; exact h)) (Ev.turn (fun k => ratio_Of.p11_succ k _ _ _) ?_)
    unfold ratio_Of.e11
    rw [hc.2 (by omega)]
    exact Ev.bind (made_ev ha hb.nt (by omega) (by omega)) Ev.pure

theorem Rt.num' {M : Nat} {q : Rat} (h : FK.LQ q ≤ M) : Zt M (int q.num) q.num := Zt.of (Nat.le_trans (LQ_num q) h)
theorem Rt.den' {M : Nat} {q : Rat} (h : FK.LQ q ≤ M) : Nt M (lim q.den) q.den := Nt.of (Nat.le_trans (LQ_den q) h)

theorem Zt.rof {M : Nat} {a : Bool × List Int} {z : Int} (h : Zt M a z) (hM : M ≤ 17592186044415) : Ev (fun k => ratio_of.f k a) (rat (z : Rat)) := by
  unfold ratio_of.f ratio_of.e
  refine Ev.bind (h.norm hM) ?_
  have : rat (z : Rat) = (int z, [1]) := by
    unfold rat
    rw [Rat.num_intCast, Rat.den_intCast, lim_one]
  rw [this]
  exact Ev.pure

theorem Rt.inv {M : Nat} {r : RR} {q : Rat} (h : Rt M r q) (h1 : 1 ≤ M) (hM : M ≤ 4398046511103) (hq : q ≠ 0) : Ev (fun k => ratio_Inv.f k r) (rat q⁻¹, (0 : Int)) := by
  unfold ratio_Inv.f ratio_Inv.e
  have hL := h.LQ h1
  refine Ev.bind (h.norm (by omega)) ?_
  rw [Rat.inv_def]
  have hn : q.num ≠ 0 := fun h => hq (Rat.num_eq_zero.1 h)
  have := Zt.of_ev (Zt.pos (Rt.den' hL)) (Rt.num' hL) (by omega) hn
  exact Ev.bind this Ev.pure
theorem Rt.inv_zero {M : Nat} {r : RR} (h : Rt M r 0) (h1 : 1 ≤ M) (hM : M ≤ 4398046511103) : Ev (fun k => ratio_Inv.f k r) (noRat, (11 : Int)) := by
  unfold ratio_Inv.f ratio_Inv.e
  have hL := h.LQ h1
  refine Ev.bind (h.norm (by omega)) ?_
  have := Zt.of_zero (Zt.pos (Rt.den' hL)) (Rt.num' hL) (by omega)
  exact Ev.bind this Ev.pure

/-- The order of two. -/
def qs (p q : Rat) : Int := (p.num * q.den - q.num * p.den).sign

theorem qs_neg {p q : Rat} : qs p q < 0 ↔ p < q := by
  unfold qs
  rw [sign_neg_iff, Rat.lt_iff]; omega
theorem qs_zero {p q : Rat} : qs p q = 0 ↔ p = q := by
  unfold qs
  rw [Int.sign_eq_zero_iff_zero, Rat.eq_iff_mul_eq_mul]; omega
theorem qs_cases (p q : Rat) : qs p q = -1 ∨ qs p q = 0 ∨ qs p q = 1 := sign_cases _
theorem qs_lt {p q : Rat} (h : p < q) : qs p q = -1 := by have := qs_neg.2 h; have := qs_cases p q; omega
theorem qs_eq {p q : Rat} (h : p = q) : qs p q = 0 := qs_zero.2 h
theorem qs_gt {p q : Rat} (h : q < p) : qs p q = 1 := by
  rcases qs_cases p q with h1 | h1 | h1
  · exact absurd (qs_neg.1 (by omega)) (Rat.not_lt.2 (Rat.le_of_lt h))
  · rw [qs_zero.1 h1] at h; exact absurd h Rat.lt_irrefl
  · exact h1

theorem Rt.cmp {M : Nat} {r s : RR} {p q : Rat} (hr : Rt M r p) (hs : Rt M s q) (h1 : 1 ≤ M) (hM : M ≤ 1099511627775) : Ev (fun k => ratio_Cmp.f k r s) (qs p q) := by
  unfold ratio_Cmp.f ratio_Cmp.e
  have lr := hr.LQ h1
  have ls := hs.LQ h1
  refine Ev.bind (hr.norm (by omega)) (Ev.bind (hs.norm (by omega)) ?_)
  refine Ev.bind ((Rt.num' lr).mul (Zt.pos (Rt.den' ls)) (by omega)) (Ev.bind ((Rt.num' ls).mul (Zt.pos (Rt.den' lr)) (by omega)) ?_)
  have a1 := LZ_mul p.num q.den
  have a2 := LZ_mul q.num p.den
  have a3 := LQ_num p; have a4 := LQ_num q; have a5 := LQ_den p; have a6 := LQ_den q
  rw [LZ_nat] at a1 a2
  have hz : Zt (4 * M) (int (p.num * q.den)) (p.num * q.den) := Zt.of (by omega)
  have hy : Zt (4 * M) (int (q.num * p.den)) (q.num * p.den) := Zt.of (by omega)
  exact Ev.bind (hz.cmp hy (by omega)) Ev.pure

theorem Rt.sign {M : Nat} {r : RR} {p : Rat} (hr : Rt M r p) (h1 : 1 ≤ M) (hM : M ≤ 1099511627775) : Ev (fun k => ratio_Sign.f k r) p.num.sign := by
  unfold ratio_Sign.f ratio_Sign.e
  exact Ev.bind (hr.norm (by omega)) (Ev.bind ((Rt.num' (hr.LQ h1)).sign (by omega)) Ev.pure)

theorem Rt.neg {M : Nat} {r : RR} {p : Rat} (hr : Rt M r p) (h1 : 1 ≤ M) (hM : M ≤ 1099511627775) : Ev (fun k => ratio_Neg.f k r) (rat (-p)) := by
  unfold ratio_Neg.f ratio_Neg.e
  exact Ev.bind (hr.norm (by omega)) (Ev.bind ((Rt.num' (hr.LQ h1)).neg (by omega)) Ev.pure)

theorem num_sign_neg (p : Rat) : p.num.sign < 0 ↔ p < 0 := by
  rw [sign_neg_iff, ← Rat.not_le, ← Rat.num_nonneg]; omega

theorem Rt.abs {M : Nat} {r : RR} {p : Rat} (hr : Rt M r p) (h1 : 1 ≤ M) (hM : M ≤ 1099511627775) : Ev (fun k => ratio_Abs.f k r) (rat p.abs) := by
  unfold ratio_Abs.f ratio_Abs.e
  refine Ev.bind (hr.sign h1 hM) ?_
  by_cases h : p < 0
  · refine Ev.tru (dec_t ((num_sign_neg p).2 h)) ?_
    rw [Rat.abs_of_nonpos (Rat.le_of_lt h)]
    exact Ev.bind (hr.neg h1 hM) Ev.pure
  · refine Ev.fls (dec_f (by rw [num_sign_neg]; exact h)) ?_
    rw [Rat.abs_of_nonneg (Rat.not_lt.1 h)]
    exact Ev.bind (hr.norm (by omega)) Ev.pure

theorem Rt.add {M : Nat} {r s : RR} {p q : Rat} (hr : Rt M r p) (hs : Rt M s q) (h1 : 1 ≤ M) (hM : M ≤ 1099511627775) : Ev (fun k => ratio_Add.f k r s) (rat (p + q)) := by
  unfold ratio_Add.f ratio_Add.e
  have lr := hr.LQ h1
  have ls := hs.LQ h1
  refine Ev.bind (hr.norm (by omega)) (Ev.bind (hs.norm (by omega)) ?_)
  refine Ev.bind ((Rt.num' lr).mul (Zt.pos (Rt.den' ls)) (by omega)) (Ev.bind ((Rt.num' ls).mul (Zt.pos (Rt.den' lr)) (by omega)) ?_)
  have a1 := LZ_mul p.num q.den
  have a2 := LZ_mul q.num p.den
  have a7 := LZ_add (p.num * q.den) (q.num * p.den)
  have a8 := L_mul p.den q.den
  have a3 := LQ_num p; have a4 := LQ_num q; have a5 := LQ_den p; have a6 := LQ_den q
  rw [LZ_nat] at a1 a2
  have hz : Zt (4 * M) (int (p.num * q.den)) (p.num * q.den) := Zt.of (by omega)
  have hy : Zt (4 * M) (int (q.num * p.den)) (q.num * p.den) := Zt.of (by omega)
  have hn : Nt (5 * M) (lim (p.den * q.den)) (p.den * q.den) := Nt.of (by omega)
  have hw : Zt (5 * M) (int (p.num * q.den + q.num * p.den)) (p.num * q.den + q.num * p.den) := Zt.of (by omega)
  rw [Rat.add_def']
  exact Ev.bind (hz.add hy (by omega)) (Ev.bind ((Rt.den' lr).mul (Rt.den' ls) (by omega)) (Ev.bind (made_ev hw hn (Nat.mul_ne_zero p.den_nz q.den_nz) (by omega)) Ev.pure))

theorem Rt.sub {M : Nat} {r s : RR} {p q : Rat} (hr : Rt M r p) (hs : Rt M s q) (h1 : 1 ≤ M) (hM : M ≤ 274877906943) : Ev (fun k => ratio_Sub.f k r s) (rat (p - q)) := by
  unfold ratio_Sub.f ratio_Sub.e
  have hn : Rt (2 * M) (rat (-q)) (-q) := Rt.of (by rw [LQ_neg]; exact hs.LQ h1)
  rw [Rat.sub_eq_add_neg]
  exact Ev.bind (hs.neg h1 (by omega)) (Ev.bind ((hr.mono (by omega)).add hn (by omega) (by omega)) Ev.pure)

end Go.FK


/- The plain law: natural numbers, the reference's. -/
namespace Go.FK

theorem V_bounds' {a : List Int} (h : Lim a) (n : Nat) : 0 ≤ V (a.take n) ∧ V (a.take n) < B ^ n := by
  have h1 := V_nonneg (h.take n)
  have h2 := V_lt (h.take n)
  have h3 : B ^ (a.take n).length ≤ B ^ n := Bpow_le (by simp; omega)
  exact ⟨h1, by omega⟩

theorem rNorm_p4 (a : List Int) (n : Nat) (hn : n ≤ a.length) (hl : a.length ≤ 35184372088832) : ∀ (m i : Nat) (c : List Int), m + i = n → c.length = n → c.take i = a.take i → Ev (fun k => ref01_Norm.p4 k c a (n : Int) (i : Int)) (a.take n) := by
  intro m
  induction m with
  | zero =>
    intro i c hi hc ht
    have hi : i = n := by omega
    subst hi
    refine Ev.turn (fun k => ref01_Norm.p4_succ k _ _ _ _) ?_
    unfold ref01_Norm.e4
    refine Ev.fls (by simp) ?_
    rw [← ht, List.take_of_length_le (by omega)]
    exact Ev.pure
  | succ m ih =>
    intro i c hi hc ht
    refine Ev.turn (fun k => ref01_Norm.p4_succ k _ _ _ _) ?_
    unfold ref01_Norm.e4
    have e1 : IntKind.i64.wrap ((i : Int) + 1) = ((i + 1 : Nat) : Int) := by rw [wrap_i64 (by omega) (by omega)]; omega
    simp only [e1, Int.toNat_natCast]
    simp (disch := omega) only [dec_t, cond_true, Bool.and_true]
    refine ih (i + 1) _ (by omega) (by rw [length_setN]; exact hc) ?_
    rw [take_succ_get (by rw [length_setN]; omega), take_succ_get (by omega), take_setN (Nat.le_refl i), nthD_setN, if_pos ⟨rfl, by omega⟩, ht]
theorem rNorm_p9 (a : List Int) (n : Nat) (hn : n ≤ a.length) (hl : a.length ≤ 35184372088832) : Ev (fun k => ref01_Norm.p9 k a (n : Int)) (a.take n) := by
  refine Ev.turn (fun k => ref01_Norm.p9_succ k _ _) ?_
  unfold ref01_Norm.e9
  refine Ev.tru (by simp; omega) ?_
  exact rNorm_p4 a n hn hl n 0 _ (by omega) (by simp) (by simp)
theorem rNorm_p0 (a : List Int) (hl : a.length ≤ 35184372088832) : ∀ (n : Nat), n ≤ a.length → Ev (fun k => ref01_Norm.p0 k a (n : Int)) (norm (a.take n)) := by
  intro n
  induction n with
  | zero =>
    intro h
    refine Ev.turn (fun k => ref01_Norm.p0_succ k a _) ?_
    unfold ref01_Norm.e0
    refine Ev.fls (by simp) ?_
    simpa [norm] using rNorm_p9 a 0 h hl
  | succ n ih =>
    intro h
    refine Ev.turn (fun k => ref01_Norm.p0_succ k a _) ?_
    unfold ref01_Norm.e0
    have e : IntKind.i64.wrap (((n + 1 : Nat) : Int) - 1) = (n : Int) := by rw [wrap_i64 (by omega) (by omega)]; omega
    simp only [e]
    refine Ev.tru (by simp) ?_
    refine Ev.tru (by simp; omega) ?_
    rw [take_succ_get (by omega)]
    by_cases h0 : nthD 0 a n = 0
    · refine Ev.tru (by simp [h0]) ?_
      rw [h0, norm_snoc_zero]
      exact ih (by omega)
    · refine Ev.fls (by simp [h0]) ?_
      rw [norm_snoc_ne _ h0, ← take_succ_get (by omega)]
      exact rNorm_p9 a (n + 1) h hl
theorem Nt.rNorm {M n : Nat} {a : List Int} (h : Nt M a n) (hM : M ≤ 35184372088832) : Ev (fun k => ref01_Norm.f k a) (FK.lim n) := by
  have := rNorm_p0 a (by have := h.len; omega) a.length (Nat.le_refl _)
  rw [List.take_length, h.norm] at this
  exact this

theorem at_eq {k : Nat} {a : List Int} (ha : Lim a) (i : Nat) : ref01_at.f k a (i : Int) = some (nthD 0 a i) := by
  unfold ref01_at.f ref01_at.e
  have h := ha.get' i
  simp only [B] at h
  by_cases h1 : a.length ≤ i
  · rw [nthD_beyond h1]
    simp (disch := omega) only [dec_t, cond_true]
  · simp (disch := omega) only [dec_t, dec_f, cond_true, cond_false, Bool.and_true, Int.toNat_natCast, wrap_u64_id]

theorem rCmp_p0 (a b : List Int) (ha : Lim a) (hb : Lim b) : ∀ (n : Nat), n ≤ 35184372088832 → Ev (fun k => ref01_Cmp.p0 k a b ((n : Int) - 1)) (sgn (V (a.take n)) (V (b.take n))) := by
  intro n
  induction n with
  | zero =>
    intro _
    refine Ev.turn (fun k => ref01_Cmp.p0_succ k a b _) ?_
    unfold ref01_Cmp.e0
    refine Ev.fls (by simp) ?_
    simp [V, sgn]
    exact Ev.pure
  | succ n ih =>
    intro h
    refine Ev.turn (fun k => ref01_Cmp.p0_succ k a b _) ?_
    unfold ref01_Cmp.e0
    have e0 : ((n + 1 : Nat) : Int) - 1 = (n : Int) := by omega
    have e : IntKind.i64.wrap ((n : Int) - 1) = (n : Int) - 1 := by rw [wrap_i64 (by omega) (by omega)]
    simp only [e0, e, at_eq ha, at_eq hb, Option.bind_some]
    rw [V_take_succ', V_take_succ', sgn_top (V_bounds' ha n) (V_bounds' hb n)]
    refine Ev.tru (by simp) ?_
    by_cases h1 : nthD 0 a n < nthD 0 b n
    · rw [if_neg (by omega), if_pos h1]
      exact Ev.tru (dec_t h1) Ev.pure
    · refine Ev.fls (dec_f h1) ?_
      by_cases h2 : nthD 0 a n > nthD 0 b n
      · rw [if_neg (by omega), if_neg h1]
        exact Ev.tru (dec_t h2) Ev.pure
      · rw [if_pos (by omega)]
        exact Ev.fls (dec_f h2) (ih (by omega))
theorem Nt.rcmp {M m n : Nat} {a b : List Int} (ha : Nt M a m) (hb : Nt M b n) (hM : M ≤ 35184372088832) : Ev (fun k => ref01_Cmp.f k a b) (sgn m n) := by
  have la := ha.len
  have lb := hb.len
  have go : ∀ N : Nat, a.length ≤ N → b.length ≤ N → N ≤ M → Ev (fun k => ref01_Cmp.p9 k a b (N : Int)) (sgn m n) := by
    intro N h1 h2 h3
    refine Ev.turn (fun k => ref01_Cmp.p9_succ k a b _) ?_
    unfold ref01_Cmp.e9
    rw [wrap_i64 (by omega) (by omega)]
    have := rCmp_p0 a b ha.lim hb.lim N (by omega)
    rw [List.take_of_length_le h1, List.take_of_length_le h2, ha.val, hb.val] at this
    exact this
  unfold ref01_Cmp.f ref01_Cmp.e
  by_cases h : a.length < b.length
  · exact Ev.tru (dec_t (by omega)) (go _ (by omega) (Nat.le_refl _) lb)
  · exact Ev.fls (dec_f (by omega)) (go _ (Nat.le_refl _) (by omega) la)

theorem rAdd_p0 (a b : List Int) (ha : Lim a) (hb : Lim b) (n : Nat) (hal : a.length ≤ n) (hbl : b.length ≤ n) (hl : n ≤ 35184372088830) : ∀ (m i : Nat) (c : List Int) (r : Int), m + i = n + 1 → c.length = n + 1 → Lim c → 0 ≤ r ∧ r ≤ 1 →
    V (c.take i) + B ^ i * r = V (a.take i) + V (b.take i) → Ev (fun k => ref01_Add.p0 k c a b (n : Int) r (i : Int)) (lim (V a + V b).toNat) := by
  intro m
  induction m with
  | zero =>
    intro i c r hi hc hlc hr hV
    refine Ev.turn (fun k => ref01_Add.p0_succ k _ _ _ _ _ _) ?_
    unfold ref01_Add.e0
    refine Ev.fls (dec_f (by omega)) ?_
    have hi : i = n + 1 := by omega
    subst hi
    rw [List.take_of_length_le (by omega), List.take_of_length_le (by omega), List.take_of_length_le (by omega)] at hV
    have h1 := V_lt ha
    have h2 := V_lt hb
    have h3 := Bpow_le hal
    have h4 := Bpow_le hbl
    have h5 := Int.pow_succ B n
    have h6 := Bpow_pos n
    have h7 := V_nonneg hlc
    have hr0 : r = 0 := by
      rcases (show r = 0 ∨ r = 1 by omega) with h | h
      · exact h
      · exfalso
        rw [h, h5] at hV
        simp only [B] at *
        omega
    rw [hr0] at hV
    have h3 : Nt (n + 1) c (V a + V b).toNat := Nt.toNat hlc (by omega) (by omega)
    exact Ev.bind (h3.rNorm (by omega)) Ev.pure
  | succ m ih =>
    intro i c r hi hc hlc hr hV
    have hx := ha.get' i
    have hy := hb.get' i
    refine Ev.turn (fun k => ref01_Add.p0_succ k _ _ _ _ _ _) ?_
    unfold ref01_Add.e0
    have e1 : IntKind.i64.wrap ((i : Int) + 1) = ((i + 1 : Nat) : Int) := by rw [wrap_i64 (by omega) (by omega)]; omega
    have e2 : IntKind.u64.wrap (IntKind.u64.wrap (nthD 0 a i + nthD 0 b i) + r) = nthD 0 a i + nthD 0 b i + r := by
      simp only [B] at hx hy
      simp (disch := omega) only [wrap_u64_id]
    have e3 : Int.fdiv (nthD 0 a i + nthD 0 b i + r) (2 ^ 32) = (nthD 0 a i + nthD 0 b i + r) / B := by rw [Int.fdiv_eq_ediv_of_nonneg _ (by omega)]; rfl
    simp only [e1, at_eq ha, at_eq hb, Option.bind_some, e2, e3, wrap_u32, Int.toNat_natCast]
    simp (disch := omega) only [dec_t, cond_true, Bool.and_true]
    refine ih (i + 1) _ _ (by omega) (by rw [length_setN]; exact hc) (hlc.set (by simp only [B] at *; omega)) (by simp only [B] at *; omega) ?_
    rw [V_take_setN (by omega), V_take_succ', V_take_succ', Int.pow_succ]
    have e := Int.emod_add_mul_ediv (nthD 0 a i + nthD 0 b i + r) B
    show V (c.take i) + B ^ i * ((nthD 0 a i + nthD 0 b i + r) % B) + B ^ i * B * ((nthD 0 a i + nthD 0 b i + r) / B) = _
    generalize (nthD 0 a i + nthD 0 b i + r) / B = q at *
    generalize (nthD 0 a i + nthD 0 b i + r) % B = s at *
    grind
theorem Nt.radd {M m n : Nat} {a b : List Int} (ha : Nt M a m) (hb : Nt M b n) (hM : M ≤ 35184372088000) : Ev (fun k => ref01_Add.f k a b) (FK.lim (m + n)) := by
  have la := ha.len
  have lb := hb.len
  have e : FK.lim (m + n) = FK.lim (V a + V b).toNat := by rw [ha.val, hb.val]; rfl
  rw [e]
  have go : ∀ N : Nat, a.length ≤ N → b.length ≤ N → N ≤ M → Ev (fun k => ref01_Add.p9 k a b (N : Int)) (FK.lim (V a + V b).toNat) := by
    intro N h1 h2 h3
    refine Ev.turn (fun k => ref01_Add.p9_succ k a b _) ?_
    unfold ref01_Add.e9
    have e1 : IntKind.i64.wrap ((N : Int) + 1) = ((N + 1 : Nat) : Int) := by rw [wrap_i64 (by omega) (by omega)]; omega
    simp only [e1, Int.toNat_natCast]
    refine Ev.tru (by simp; omega) ?_
    exact rAdd_p0 a b ha.lim hb.lim N h1 h2 (by omega) (N + 1) 0 _ 0 (by omega) (by simp) (Lim_replicate_zero _) (by omega) (by simp [V])
  unfold ref01_Add.f ref01_Add.e
  by_cases h : a.length < b.length
  · exact Ev.tru (dec_t (by omega)) (go _ (by omega) (Nat.le_refl _) lb)
  · exact Ev.fls (dec_f (by omega)) (go _ (Nat.le_refl _) (by omega) la)

theorem rSub_p0 (a b : List Int) (ha : Lim a) (hb : Lim b) (hl : a.length ≤ 35184372088832) (hbz : V (b.take a.length) = V b) (hle : V b ≤ V a) : ∀ (m i : Nat) (c : List Int) (r : Int), m + i = a.length → c.length = a.length → Lim c → 0 ≤ r ∧ r ≤ 1 →
    V (c.take i) - B ^ i * r = V (a.take i) - V (b.take i) → Ev (fun k => ref01_Sub.p0 k c a b r (i : Int)) (lim (V a - V b).toNat, (0 : Int)) := by
  intro m
  induction m with
  | zero =>
    intro i c r hi hc hlc hr hV
    refine Ev.turn (fun k => ref01_Sub.p0_succ k _ _ _ _ _) ?_
    unfold ref01_Sub.e0
    have hi : i = a.length := by omega
    subst hi
    refine Ev.fls (by simp) ?_
    rw [List.take_of_length_le (by omega), List.take_of_length_le (Nat.le_refl _), hbz] at hV
    have h1 : V c < B ^ a.length := by have := V_lt hlc; rw [hc] at this; exact this
    have h2 := V_nonneg hlc
    have h0 : r = 0 := by
      rcases (show r = 0 ∨ r = 1 by omega) with h | h
      · exact h
      · rw [h] at hV; omega
    rw [h0] at hV
    have h3 : Nt a.length c (V a - V b).toNat := Nt.toNat hlc (by omega) (by omega)
    exact Ev.bind (h3.rNorm (by omega)) Ev.pure
  | succ m ih =>
    intro i c r hi hc hlc hr hV
    have hx := ha.get' i
    have hy := hb.get' i
    refine Ev.turn (fun k => ref01_Sub.p0_succ k _ _ _ _ _) ?_
    unfold ref01_Sub.e0
    have e1 : IntKind.i64.wrap ((i : Int) + 1) = ((i + 1 : Nat) : Int) := by rw [wrap_i64 (by omega) (by omega)]; omega
    have e2 : IntKind.u64.wrap (IntKind.u64.wrap (nthD 0 a i - nthD 0 b i) - r) = (nthD 0 a i - nthD 0 b i - r) % 18446744073709551616 := by
      simp only [wrap_u64]; omega
    have e3 : Int.fdiv ((nthD 0 a i - nthD 0 b i - r) % 18446744073709551616) (2 ^ 63) = if nthD 0 a i < nthD 0 b i + r then 1 else 0 := by
      rw [Int.fdiv_eq_ediv_of_nonneg _ (by omega)]
      simp only [B] at hx hy
      split <;> omega
    have e4 : IntKind.u32.wrap ((nthD 0 a i - nthD 0 b i - r) % 18446744073709551616) = (nthD 0 a i - nthD 0 b i - r) % B := by simp only [wrap_u32, B]; omega
    simp only [e1, at_eq ha, at_eq hb, Option.bind_some, e2, e3, e4, Int.toNat_natCast]
    simp (disch := omega) only [dec_t, cond_true, Bool.and_true]
    refine ih (i + 1) _ _ (by omega) (by rw [length_setN]; exact hc) (hlc.set (by simp only [B] at *; omega)) (by split <;> omega) ?_
    rw [V_take_setN (by omega), V_take_succ', V_take_succ', Int.pow_succ]
    have e : (nthD 0 a i - nthD 0 b i - r) % B = nthD 0 a i - nthD 0 b i - r + B * (if nthD 0 a i < nthD 0 b i + r then 1 else 0) := by
      simp only [B] at *
      split <;> omega
    generalize (if nthD 0 a i < nthD 0 b i + r then (1 : Int) else 0) = q at *
    generalize (nthD 0 a i - nthD 0 b i - r) % B = s at *
    grind
theorem Nt.rsub {M m n : Nat} {a b : List Int} (ha : Nt M a m) (hb : Nt M b n) (hM : M ≤ 35184372088832) (h : n ≤ m) : Ev (fun k => ref01_Sub.f k a b) (FK.lim (m - n), (0 : Int)) := by
  have la := ha.len
  have e : FK.lim (m - n) = FK.lim (V a - V b).toNat := by rw [ha.val, hb.val]; congr 1; omega
  rw [e]
  unfold ref01_Sub.f ref01_Sub.e
  refine Ev.bind (ha.rcmp hb hM) ?_
  refine Ev.fls ?_ ?_
  · unfold sgn
    by_cases h1 : (m : Int) = n
    · rw [if_neg (by omega), if_pos h1]; rfl
    · rw [if_neg (by omega), if_neg h1]; rfl
  have hbz : V (b.take a.length) = V b := by
    by_cases h1 : b.length ≤ a.length
    · rw [List.take_of_length_le h1]
    · have h2 := V_split b a.length (by omega)
      have h3 := V_lt ha.lim
      rw [ha.val] at h3
      have h4 := drop_zero_of_lt hb.lim (m := a.length) (by omega) (by rw [hb.val]; omega)
      rw [h4] at h2
      omega
  refine Ev.tru (by simp; omega) ?_
  exact rSub_p0 a b ha.lim hb.lim (by omega) hbz (by rw [ha.val, hb.val]; omega) a.length 0 _ 0 (by omega) (by simp) (Lim_replicate_zero _) (by omega) (by simp [V])

theorem rMul_p4 (a b : List Int) (ha : Lim a) (hb : Lim b) (hl : a.length ≤ 17592186044416) (hlb : b.length ≤ 17592186044416) (i : Nat) (hi : i < a.length) (C0 : Int) (R : List Int)
    (hK : ∀ c : List Int, c.length = a.length + b.length → Lim c → (∀ j, i + 1 + b.length ≤ j → nthD 0 c j = 0) → V c = C0 + B ^ i * (nthD 0 a i * V b) → Ev (fun k => ref01_Mul.p0 k c a b ((i + 1 : Nat) : Int)) R) :
    ∀ (m t : Nat) (c : List Int) (r : Int), m + t = b.length → c.length = a.length + b.length → Lim c → 0 ≤ r ∧ r < B → (∀ j, i + b.length ≤ j → nthD 0 c j = 0) →
      V c + B ^ (i + t) * r = C0 + B ^ i * (nthD 0 a i * V (b.take t)) → Ev (fun k => ref01_Mul.p4 k c a b (i : Int) r (t : Int)) R := by
  intro m
  induction m with
  | zero =>
    intro t c r ht hc hlc hr hz hV
    refine Ev.turn (fun k => ref01_Mul.p4_succ k _ _ _ _ _ _) ?_
    unfold ref01_Mul.e4
    have ht : t = b.length := by omega
    subst ht
    simp only [B] at hr
    have e1 : IntKind.i64.wrap ((i : Int) + (b.length : Int)) = ((i + b.length : Nat) : Int) := by rw [wrap_i64 (by omega) (by omega)]; omega
    have e2 : IntKind.i64.wrap ((i : Int) + 1) = ((i + 1 : Nat) : Int) := by rw [wrap_i64 (by omega) (by omega)]; omega
    rw [e1, e2, wrap_u32_id hr.1 hr.2]
    simp (disch := omega) only [dec_t, dec_f, cond_true, cond_false, Bool.and_true, Int.toNat_natCast]
    refine hK _ (by rw [length_setN]; exact hc) (hlc.set (by simp only [B]; omega)) ?_ ?_
    · intro j hj
      rw [nthD_setN, if_neg (by omega)]
      exact hz j (by omega)
    · rw [V_setN _ _ _ (by omega), hz _ (Nat.le_refl _)]
      rw [List.take_of_length_le (Nat.le_refl _)] at hV
      rw [← hV]
      simp
  | succ m ih =>
    intro t c r ht hc hlc hr hz hV
    refine Ev.turn (fun k => ref01_Mul.p4_succ k _ _ _ _ _ _) ?_
    unfold ref01_Mul.e4
    have hx := ha.get' i
    have hy := hb.get' t
    have hw := hlc.get' (i + t)
    have hm := mul_limb hx hy hw hr
    have e1 : IntKind.i64.wrap ((i : Int) + (t : Int)) = ((i + t : Nat) : Int) := by rw [wrap_i64 (by omega) (by omega)]; omega
    have e2 : IntKind.i64.wrap ((t : Int) + 1) = ((t + 1 : Nat) : Int) := by rw [wrap_i64 (by omega) (by omega)]; omega
    rw [e1, e2]
    simp only [Int.toNat_natCast]
    generalize hxy : nthD 0 a i * nthD 0 b t = xy at *
    have e3 : IntKind.u64.wrap (IntKind.u64.wrap (IntKind.u64.wrap (IntKind.u64.wrap (nthD 0 a i) * IntKind.u64.wrap (nthD 0 b t)) + IntKind.u64.wrap (nthD 0 c (i + t))) + r) = xy + nthD 0 c (i + t) + r := by
      simp only [B] at hx hy hw hr
      rw [wrap_u64_id hx.1 (by omega), wrap_u64_id hy.1 (by omega), wrap_u64_id hw.1 (by omega), hxy]
      simp (disch := omega) only [wrap_u64_id]
    rw [e3, wrap_u32, Int.fdiv_eq_ediv_of_nonneg _ (by omega)]
    simp (disch := omega) only [dec_t, cond_true, Bool.and_true]
    refine ih (t + 1) _ _ (by omega) (by rw [length_setN]; exact hc) (hlc.set (by simp only [B]; omega)) (by simp only [B] at *; omega) ?_ ?_
    · intro j hj
      rw [nthD_setN, if_neg (by omega)]
      exact hz j hj
    · have e4 := Int.emod_add_mul_ediv (xy + nthD 0 c (i + t) + r) B
      show V (setN ((xy + nthD 0 c (i + t) + r) % B) c (i + t)) + B ^ (i + (t + 1)) * ((xy + nthD 0 c (i + t) + r) / B) = _
      rw [V_setN _ _ _ (by omega), V_take_succ']
      generalize (xy + nthD 0 c (i + t) + r) / B = q at *
      generalize (xy + nthD 0 c (i + t) + r) % B = s at *
      rw [show i + (t + 1) = (i + t) + 1 by omega, Int.pow_succ]
      rw [Int.pow_add] at *
      grind

theorem rMul_p0 (a b : List Int) (ha : Lim a) (hb : Lim b) (hl : a.length ≤ 17592186044416) (hlb : b.length ≤ 17592186044416) : ∀ (m i : Nat) (c : List Int), m + i = a.length → c.length = a.length + b.length → Lim c → (∀ j, i + b.length ≤ j → nthD 0 c j = 0) →
    V c = V (a.take i) * V b → Ev (fun k => ref01_Mul.p0 k c a b (i : Int)) (lim (V a * V b).toNat) := by
  intro m
  induction m with
  | zero =>
    intro i c hi hc hlc hz hV
    refine Ev.turn (fun k => ref01_Mul.p0_succ k _ _ _ _) ?_
    unfold ref01_Mul.e0
    refine Ev.fls (by simp; omega) ?_
    rw [List.take_of_length_le (by omega)] at hV
    exact Ev.bind ((Nt.toNat hlc hV (Nat.le_refl _)).rNorm (by omega)) Ev.pure
  | succ m ih =>
    intro i c hi hc hlc hz hV
    refine Ev.turn (fun k => ref01_Mul.p0_succ k _ _ _ _) ?_
    unfold ref01_Mul.e0
    refine Ev.tru (by simp; omega) ?_
    refine rMul_p4 a b ha hb hl hlb i (by omega) (V (a.take i) * V b) _ ?_ b.length 0 c 0 (by omega) hc hlc (by simp [B]) hz ?_
    · intro c' h1 h2 h3 h4
      refine ih (i + 1) c' (by omega) h1 h2 h3 ?_
      rw [h4, V_take_succ', Int.add_mul, Int.mul_assoc]
    · simp [V, hV]

theorem Nt.rmul {M m n : Nat} {a b : List Int} (ha : Nt M a m) (hb : Nt M b n) (hM : M ≤ 17592186044416) : Ev (fun k => ref01_Mul.f k a b) (FK.lim (m * n)) := by
  have e : FK.lim (m * n) = FK.lim (V a * V b).toNat := by
    rw [ha.val, hb.val]; congr 1
  have la := ha.len
  have lb := hb.len
  rw [e]
  unfold ref01_Mul.f ref01_Mul.e
  simp (disch := omega) only [dec_t, cond_true, Bool.and_true, wrap_i64]
  refine rMul_p0 _ _ ha.lim hb.lim (by omega) (by omega) a.length 0 _ (by omega) (by simp; omega) (Lim_replicate_zero _) (fun j _ => nthD_zeros _ _) ?_
  simp [V, V_replicate_zero]

theorem bits_or32_comm {a b : Int} (ha : 0 ≤ a ∧ a < 4294967296) (hb : 0 ≤ b ∧ b < 4294967296) : bitsI .or .u32 a b = bitsI .or .u32 b a := by rw [bits_or32 ha hb, bits_or32 hb ha, Nat.or_comm]

theorem twice_p0 (a : List Int) (ha : Lim a) (hl : a.length ≤ 35184372088000) (g : Int) (_hg : 0 ≤ g ∧ g ≤ 1) : ∀ (m i : Nat) (c : List Int) (r : Int), m + i = a.length → c.length = a.length + 1 → Lim c → 0 ≤ r ∧ r ≤ 1 →
    V (c.take i) + B ^ i * r = 2 * V (a.take i) + g → Ev (fun k => ref01_twice.p0 k c a r (i : Int)) (lim (2 * V a + g).toNat) := by
  intro m
  induction m with
  | zero =>
    intro i c r hi hc hlc hr hV
    refine Ev.turn (fun k => ref01_twice.p0_succ k _ _ _ _) ?_
    unfold ref01_twice.e0
    have hi : i = a.length := by omega
    subst hi
    refine Ev.fls (by simp) (Ev.tru (by simp; omega) ?_)
    simp only [Int.toNat_natCast]
    have h2 : V (setN r c a.length) = 2 * V a + g := by
      have := V_take_setN (c := c) (i := a.length) (v := r) (by omega)
      rw [List.take_of_length_le (by rw [length_setN]; omega)] at this
      rw [this, hV, List.take_of_length_le (Nat.le_refl _)]
    have h3 : Nt (a.length + 1) (setN r c a.length) (2 * V a + g).toNat := Nt.toNat (hlc.set (by simp only [B]; omega)) h2 (by rw [length_setN]; omega)
    exact Ev.bind (h3.rNorm (by omega)) Ev.pure
  | succ m ih =>
    intro i c r hi hc hlc hr hV
    have hx := ha.get' i
    refine Ev.turn (fun k => ref01_twice.p0_succ k _ _ _ _) ?_
    unfold ref01_twice.e0
    have e1 : IntKind.i64.wrap ((i : Int) + 1) = ((i + 1 : Nat) : Int) := by rw [wrap_i64 (by omega) (by omega)]; omega
    have e2 : IntKind.u32.wrap (nthD 0 a i * 2 ^ 1) = nthD 0 a i * 2 ^ 1 % B := wrap_u32 _
    have e3 : bitsI .or .u32 (nthD 0 a i * 2 ^ 1 % B) r = r + nthD 0 a i * 2 ^ 1 % B := by
      rw [bits_or32_comm (by simp only [B]; omega) (by omega)]
      exact or_low (u := 1) (by omega) ⟨hr.1, by omega⟩ hx.1
    have e4 : Int.fdiv (nthD 0 a i) (2 ^ 31) = nthD 0 a i * 2 ^ 1 / B := by rw [Int.fdiv_eq_ediv_of_nonneg _ (by omega)]; simp only [B]; omega
    simp only [e1, e2, e3, e4, Int.toNat_natCast]
    simp (disch := omega) only [dec_t, cond_true, Bool.and_true]
    have e := Int.emod_add_mul_ediv (nthD 0 a i * 2 ^ 1) B
    have hb : 0 ≤ r + nthD 0 a i * 2 ^ 1 % B ∧ r + nthD 0 a i * 2 ^ 1 % B < B := by simp only [B]; omega
    refine ih (i + 1) _ _ (by omega) (by rw [length_setN]; exact hc) (hlc.set hb) (by simp only [B] at *; omega) ?_
    rw [V_take_setN (by omega), V_take_succ', Int.pow_succ]
    generalize (nthD 0 a i * 2 ^ 1) / B = q at *
    generalize (nthD 0 a i * 2 ^ 1) % B = s at *
    grind
theorem Nt.twice {M m : Nat} {a : List Int} (ha : Nt M a m) (hM : M ≤ 35184372088000) (d : Bool) : Ev (fun k => ref01_twice.f k a d) (FK.lim (2 * m + d.toNat)) := by
  have la := ha.len
  have e : FK.lim (2 * m + d.toNat) = FK.lim (2 * V a + d.toNat).toNat := by rw [ha.val]; congr 1
  rw [e]
  have e1 : IntKind.i64.wrap ((a.length : Int) + 1) = ((a.length + 1 : Nat) : Int) := by rw [wrap_i64 (by omega) (by omega)]; omega
  have go : ∀ g : Int, 0 ≤ g ∧ g ≤ 1 → Ev (fun k => ref01_twice.p11 k (List.replicate (a.length + 1) 0) a g) (FK.lim (2 * V a + g).toNat) := by
    intro g hg
    refine Ev.turn (fun k => ref01_twice.p11_succ k _ _ _) ?_
    unfold ref01_twice.e11
    exact twice_p0 a ha.lim (by omega) g hg a.length 0 _ g (by omega) (by simp) (Lim_replicate_zero _) hg (by simp [V])
  unfold ref01_twice.f ref01_twice.e
  simp only [e1, Int.toNat_natCast]
  refine Ev.tru (by simp; omega) ?_
  cases d with
  | true => exact go 1 (by omega)
  | false => exact go 0 (by omega)

end Go.FK


/- The plain law: the reference's digits, shifts, division and greatest common divisor. -/
namespace Go.FK

theorem get_V : ∀ {l : List Int}, Lim l → ∀ (j : Nat), nthD 0 l j = V l / B ^ j % B
  | [], _, j => by simp [nthD, V]
  | x :: xs, h, 0 => by
    have h1 := h.cons.1
    simp only [nthD, V, Int.pow_zero, Int.ediv_one, B] at *
    omega
  | x :: xs, h, j + 1 => by
    have ih := get_V h.cons.2 j
    have h1 := h.cons.1
    simp only [nthD, V]
    rw [ih, Int.pow_succ, Int.mul_comm (B ^ j) B, ← Int.ediv_ediv_of_nonneg (by simp [B])]
    congr 2
    simp only [B] at *
    omega

theorem Nt.get {M m : Nat} {a : List Int} (ha : Nt M a m) (j : Nat) : nthD 0 a j = ((m / 2 ^ (32 * j) % 4294967296 : Nat) : Int) := by
  rw [get_V ha.lim, ha.val]
  have : B ^ j = ((2 ^ (32 * j) : Nat) : Int) := by rw [Nat.pow_mul, Int.natCast_pow]; rfl
  rw [this]
  rfl

theorem bit_eq {k : Nat} {M m : Nat} {a : List Int} (ha : Nt M a m) (_hM : M ≤ 35184372088832) (i : Nat) (hi : i ≤ 1152921504606846976) : ref01_Bit.f k a (i : Int) = some (m.testBit i) := by
  have la := ha.len
  unfold ref01_Bit.f ref01_Bit.e
  have e1 : IntKind.i64.wrap (Int.tdiv (i : Int) 32) = ((i / 32 : Nat) : Int) := by
    rw [Int.tdiv_eq_ediv_of_nonneg (by omega), wrap_i64 (by omega) (by omega)]; omega
  have e2 : IntKind.u64.wrap (Int.tmod (i : Int) 32) = ((i % 32 : Nat) : Int) := by
    rw [Int.tmod_eq_emod_of_nonneg (by omega), wrap_u64_id (by omega) (by omega)]; omega
  simp only [e1, e2, Int.toNat_natCast]
  rw [dec_t (by omega)]
  simp only [cond_true]
  by_cases h : i / 32 < a.length
  · simp (disch := omega) only [dec_t, dec_f, cond_true, cond_false, Bool.and_true]
    have hg := ha.get (i / 32)
    have e3 : Int.fdiv (nthD 0 a (i / 32)) (2 ^ min (i % 32) 32) = ((m / 2 ^ (32 * (i / 32)) % 4294967296 / 2 ^ (i % 32) : Nat) : Int) := by
      rw [hg, Nat.min_eq_left (by omega), Int.fdiv_eq_ediv_of_nonneg _ (Int.le_of_lt (Int.pow_pos (by omega))), Int.natCast_ediv, Int.natCast_pow]; rfl
    rw [e3]
    have hlt : m / 2 ^ (32 * (i / 32)) % 4294967296 / 2 ^ (i % 32) < 4294967296 := Nat.lt_of_le_of_lt (Nat.div_le_self _ _) (Nat.mod_lt _ (by omega))
    have e5 : bitsI .and .u32 ((m / 2 ^ (32 * (i / 32)) % 4294967296 / 2 ^ (i % 32) : Nat) : Int) 1 = ((m / 2 ^ (32 * (i / 32)) % 4294967296 / 2 ^ (i % 32) % 2 : Nat) : Int) := by
      generalize m / 2 ^ (32 * (i / 32)) % 4294967296 / 2 ^ (i % 32) = z at *
      rw [bits_and32 (by omega) (by omega)]
      simp only [Int.toNat_natCast, Int.toNat_one, Nat.and_one_is_mod]
    rw [e5]
    congr 1
    have e4 : m.testBit i = (m / 2 ^ (32 * (i / 32)) % 2 ^ 32).testBit (i % 32) := by
      rw [Nat.testBit_mod_two_pow, Nat.testBit_div_two_pow, dec_t (by omega), Bool.true_and]
      congr 1
      omega
    rw [e4, Nat.testBit_eq_decide_div_mod_eq]
    apply decide_eq_decide.2
    show ((m / 2 ^ (32 * (i / 32)) % 4294967296 / 2 ^ (i % 32) % 2 : Nat) : Int) = 1 ↔ m / 2 ^ (32 * (i / 32)) % 4294967296 / 2 ^ (i % 32) % 2 = 1
    generalize m / 2 ^ (32 * (i / 32)) % 4294967296 / 2 ^ (i % 32) = z
    omega
  · have hz : m < 2 ^ i := by
      have h1 : V a < B ^ a.length := V_lt ha.lim
      rw [ha.val] at h1
      have h2 : m < 4294967296 ^ a.length := by
        apply Int.ofNat_lt.1
        rw [Int.natCast_pow]
        exact h1
      have h3 : (4294967296 : Nat) ^ a.length = 2 ^ (32 * a.length) := by rw [Nat.pow_mul]
      have h4 : 2 ^ (32 * a.length) ≤ 2 ^ i := Nat.pow_le_pow_right (by omega) (by omega)
      omega
    rw [Nat.testBit_lt_two_pow hz, dec_f (by omega)]
    rfl

/-! ### Shifts -/
theorem or_high {u : Nat} {x h : Int} (_hu : u ≤ 32) (hx : x = 0) (hh : 0 ≤ h ∧ h < B) : bitsI .or .u32 x h = h := by
  subst hx
  simp only [B] at hh
  rw [bits_or32 (by omega) hh, Int.toNat_zero, Nat.zero_or]
  omega

section
variable (a : List Int) (s : Nat) (J K S : Nat)

/-- What the row is when i limbs have been moved. -/
structure Shi (i : Nat) (o : List Int) : Prop where
  lim : Lim o
  len : o.length = S
  val : V o = V (a.take i) * 2 ^ s * B ^ J / B ^ K
  edge : K ≤ i + J → nthD 0 o (i + J - K) < 2 ^ s
  zero : ∀ j, i + J < j + K → nthD 0 o j = 0

variable {a s J K S}

theorem lo_hi {y : Int} (hs : s < 32) (hy : 0 ≤ y ∧ y < B) : 0 ≤ y * 2 ^ s % B ∧ y * 2 ^ s % B + 2 ^ s ≤ B ∧ 0 ≤ y * 2 ^ s / B ∧ y * 2 ^ s / B < 2 ^ s ∧ y * 2 ^ s % B + B * (y * 2 ^ s / B) = y * 2 ^ s ∧ y * 2 ^ s < 18446744073709551616 ∧ 0 ≤ y * 2 ^ s ∧ (2 : Int) ^ s ≤ 2147483648 := by
  have hp : (2 : Int) ^ s * 2 ^ (32 - s) = B := by rw [← Int.pow_add, show s + (32 - s) = 32 by omega]; rfl
  have hp0 : (0 : Int) < 2 ^ s := Int.pow_pos (by omega)
  have hp1 : (0 : Int) < 2 ^ (32 - s) := Int.pow_pos (by omega)
  have e4 : y * 2 ^ s / B = y / 2 ^ (32 - s) := by rw [← hp, Int.mul_comm y, Int.mul_ediv_mul_of_pos _ _ hp0]
  have h1 : 0 ≤ y / 2 ^ (32 - s) := Int.ediv_nonneg hy.1 (by omega)
  have h2 : y / 2 ^ (32 - s) < 2 ^ s := Int.ediv_lt_of_lt_mul hp1 (by rw [hp]; exact hy.2)
  have hd : (y * 2 ^ s) % B = 2 ^ s * (y % 2 ^ (32 - s)) := by rw [← hp, Int.mul_comm y, Int.mul_emod_mul_of_pos _ _ hp0]
  have h6 := Int.emod_lt_of_pos y hp1
  have h7 : 2 ^ s * (y % 2 ^ (32 - s) + 1) ≤ 2 ^ s * 2 ^ (32 - s) := Int.mul_le_mul_of_nonneg_left h6 (by omega)
  rw [hp, Int.mul_add] at h7
  have h8 : (2 : Int) ^ s ≤ 2147483648 := by
    have h9 : (2 : Nat) ^ s ≤ 2 ^ 31 := Nat.pow_le_pow_right (by omega) (by omega)
    have h10 : ((2 ^ s : Nat) : Int) ≤ ((2 ^ 31 : Nat) : Int) := Int.ofNat_le.2 h9
    rw [Int.natCast_pow] at h10
    exact h10
  have h11 : y * 2 ^ s ≤ y * 2147483648 := Int.mul_le_mul_of_nonneg_left h8 hy.1
  have h12 : 0 ≤ y * 2 ^ s := Int.mul_nonneg hy.1 (by omega)
  refine ⟨Int.emod_nonneg _ (by simp [B]), by rw [hd]; omega, by rw [e4]; exact h1, by rw [e4]; exact h2, Int.emod_add_mul_ediv _ _, ?_, h12, h8⟩
  simp only [B] at hy
  omega

theorem T_lt (ha : Lim a) (i : Nat) : 0 ≤ V (a.take i) * 2 ^ s ∧ V (a.take i) * 2 ^ s + 2 ^ s ≤ B ^ i * 2 ^ s := by
  have h := V_bounds' ha i
  have hp0 : (0 : Int) < 2 ^ s := Int.pow_pos (by omega)
  have h2 : (V (a.take i) + 1) * 2 ^ s ≤ B ^ i * 2 ^ s := Int.mul_le_mul_of_nonneg_right h.2 (by omega)
  rw [Int.add_mul] at h2
  exact ⟨Int.mul_nonneg h.1 (by omega), by omega⟩

/-- A limb moved: to a place in the row, between, or ahead of it. -/
theorem Shi.next (ha : Lim a) (hs : s < 32) (hJK : J = 0 ∨ K = 0) {i : Nat} {o : List Int} (h : Shi a s J K S i o) (_hi : i < a.length)
    (lo hi' : Int) (hlo : lo = nthD 0 a i * 2 ^ s % B) (hhi : hi' = nthD 0 a i * 2 ^ s / B) :
    (∀ p, i + J = p + K → p + 1 < S → Shi a s J K S (i + 1) (setN hi' (setN (nthD 0 o p + lo) o p) (p + 1))) ∧
    (∀ p, i + J = p + K → p + 1 = S → hi' = 0 → Shi a s J K S (i + 1) (setN (nthD 0 o p + lo) o p)) ∧
    (i + 1 + J = K → 0 < S → Shi a s J K S (i + 1) (setN hi' o 0)) ∧
    (i + 1 + J < K → Shi a s J K S (i + 1) o) := by
  have hy := ha.get' i
  obtain ⟨l0, l1, h0, h1, hsum, _, _, _⟩ := lo_hi (s := s) hs hy
  rw [← hlo] at l0 l1
  rw [← hhi] at h0 h1
  rw [← hlo, ← hhi] at hsum
  have hT := T_lt (s := s) ha i
  have hp0 : (0 : Int) < 2 ^ s := Int.pow_pos (by omega)
  have hBK := Bpow_pos K
  have hval : V (a.take (i + 1)) * 2 ^ s * B ^ J = V (a.take i) * 2 ^ s * B ^ J + (lo + B * hi') * B ^ (i + J) := by
    rw [V_take_succ', hsum, Int.pow_add]
    grind
  have hin : ∀ p, i + J = p + K → V (a.take (i + 1)) * 2 ^ s * B ^ J / B ^ K = V o + (lo + B * hi') * B ^ p := by
    intro p hp
    rw [hval, h.val, hp, Int.pow_add]
    rw [show (lo + B * hi') * (B ^ p * B ^ K) = (lo + B * hi') * B ^ p * B ^ K by rw [Int.mul_assoc]]
    rw [Int.add_mul_ediv_right _ _ (by omega)]
  refine ⟨?_, ?_, ?_, ?_⟩
  · intro p hp hpS
    have hx := h.lim.get' p
    have hxe := h.edge (by omega)
    rw [show i + J - K = p by omega] at hxe
    have hz := h.zero (p + 1) (by omega)
    refine ⟨(h.lim.set ⟨by omega, by omega⟩).set ⟨h0, by omega⟩, by rw [length_setN, length_setN]; exact h.len, ?_, ?_, ?_⟩
    · rw [hin p hp, V_setN _ _ _ (by rw [length_setN, h.len]; omega), V_setN _ _ _ (by rw [h.len]; omega), nthD_setN, if_neg (by omega), hz, Int.pow_succ]
      grind
    · intro _
      rw [show i + 1 + J - K = p + 1 by omega, nthD_setN, if_pos ⟨rfl, by rw [length_setN, h.len]; omega⟩]
      exact h1
    · intro j hj
      rw [nthD_setN, if_neg (by omega), nthD_setN, if_neg (by omega)]
      exact h.zero j (by omega)
  · intro p hp hpS h00
    have hx := h.lim.get' p
    have hxe := h.edge (by omega)
    rw [show i + J - K = p by omega] at hxe
    refine ⟨h.lim.set ⟨by omega, by omega⟩, by rw [length_setN]; exact h.len, ?_, ?_, ?_⟩
    · rw [hin p hp, V_setN _ _ _ (by rw [h.len]; omega), h00]
      grind
    · intro _
      rw [show i + 1 + J - K = p + 1 by omega, nthD_beyond (by rw [length_setN, h.len]; omega)]
      exact hp0
    · intro j hj
      rw [nthD_setN, if_neg (by omega)]
      exact h.zero j (by omega)
  · intro hK hS
    have hJ : J = 0 := by omega
    subst hJ
    have hz := h.zero 0 (by omega)
    have hVo : V o = 0 := by
      rw [h.val]
      apply Int.ediv_eq_zero_of_lt
      · rw [Int.pow_zero, Int.mul_one]; exact hT.1
      · rw [Int.pow_zero, Int.mul_one, ← hK, Nat.add_zero, Int.pow_succ]
        have : B ^ i * 2 ^ s ≤ B ^ i * B := Int.mul_le_mul_of_nonneg_left (by omega) (Int.le_of_lt (Bpow_pos i))
        omega
    refine ⟨h.lim.set ⟨h0, by omega⟩, by rw [length_setN]; exact h.len, ?_, ?_, ?_⟩
    · rw [V_setN _ _ _ (by rw [h.len]; omega), hVo, hz, hval, ← hK]
      simp only [Int.pow_zero, Int.mul_one, Nat.add_zero, Int.one_mul, Int.sub_zero, Int.zero_add]
      have e : V (a.take i) * 2 ^ s + (lo + B * hi') * B ^ i = (V (a.take i) * 2 ^ s + lo * B ^ i) + hi' * B ^ (i + 1) := by rw [Int.pow_succ]; grind
      rw [e, Int.add_mul_ediv_right _ _ (by have := Bpow_pos (i + 1); omega), Int.ediv_eq_zero_of_lt, Int.zero_add]
      · have := Int.mul_nonneg l0 (Int.le_of_lt (Bpow_pos i)); omega
      · have h9 : (lo + 2 ^ s) * B ^ i ≤ B * B ^ i := Int.mul_le_mul_of_nonneg_right l1 (Int.le_of_lt (Bpow_pos i))
        rw [Int.add_mul, Int.mul_comm (2 ^ s)] at h9
        rw [Int.pow_succ, Int.mul_comm (B ^ i) B]
        omega
    · intro _
      rw [show i + 1 + 0 - K = 0 by omega, nthD_setN, if_pos ⟨rfl, by rw [h.len]; omega⟩]
      exact h1
    · intro j hj
      rw [nthD_setN, if_neg (by omega)]
      exact h.zero j (by omega)
  · intro hK
    have hJ : J = 0 := by omega
    subst hJ
    refine ⟨h.lim, h.len, ?_, fun h2 => by omega, fun j hj => h.zero j (by omega)⟩
    have small : ∀ t : Nat, t + 1 ≤ K → V (a.take t) * 2 ^ s * B ^ 0 / B ^ K = 0 := by
      intro t ht
      have hT' := T_lt (s := s) ha t
      rw [Int.pow_zero, Int.mul_one]
      apply Int.ediv_eq_zero_of_lt hT'.1
      have h3 : B ^ t * 2 ^ s ≤ B ^ t * B := Int.mul_le_mul_of_nonneg_left (by omega) (Int.le_of_lt (Bpow_pos t))
      rw [← Int.pow_succ] at h3
      have h4 := Bpow_le ht
      exact Int.lt_of_lt_of_le (by omega) (Int.le_trans h3 h4)
    rw [h.val, small i (by omega), small (i + 1) (by omega)]
end

end Go.FK


/- The plain law: the reference's shift. -/
namespace Go.FK

theorem rshift_p0 {a : List Int} {s J K S : Nat} (ha : Lim a) (hl : a.length ≤ 17592186044416) (hJ : J ≤ 17592186044416) (hK : K ≤ 17592186044416) (hSl : S ≤ 35184372088832) (hs : s < 32) (hJK : J = 0 ∨ K = 0)
    (hS : ∀ i p, i < a.length → i + J = p + K → p + 1 < S ∨ (p + 1 = S ∧ nthD 0 a i * 2 ^ s / B = 0)) (hS0 : 0 < a.length → 0 < S) :
    ∀ (m i : Nat) (o : List Int), m + i = a.length → Shi a s J K S i o → Ev (fun k => ref01_Shift.p0 k o a (S : Int) ((J : Int) - (K : Int)) (s : Int) (i : Int)) (lim (V a * 2 ^ s * B ^ J / B ^ K).toNat, (0 : Int)) := by
  intro m
  induction m with
  | zero =>
    intro i o hi h
    refine Ev.turn (fun k => ref01_Shift.p0_succ k _ _ _ _ _ _) ?_
    unfold ref01_Shift.e0
    refine Ev.fls (dec_f (by omega)) ?_
    have hv := h.val
    rw [List.take_of_length_le (by omega)] at hv
    have n1 : Nt S o (V a * 2 ^ s * B ^ J / B ^ K).toNat := Nt.toNat h.lim hv (by rw [h.len]; omega)
    exact Ev.bind (n1.rNorm (by omega)) Ev.pure
  | succ m ih =>
    intro i o hi h
    have hy := ha.get' i
    obtain ⟨l0, l1, h0, h1, hsum, hb, hb0, h31⟩ := lo_hi (s := s) hs hy
    obtain ⟨n1, n2, n3, n4⟩ := h.next ha hs hJK (by omega) _ _ rfl rfl
    have hp0 : (0 : Int) < 2 ^ s := Int.pow_pos (by omega)
    -- behind a step
    have step : ∀ o', Shi a s J K S (i + 1) o' → Ev (fun k => ref01_Shift.p33 k o' a (S : Int) ((J : Int) - (K : Int)) (s : Int) (i : Int)) (lim (V a * 2 ^ s * B ^ J / B ^ K).toNat, (0 : Int)) := by
      intro o' h'
      refine Ev.turn (fun k => ref01_Shift.p33_succ k _ _ _ _ _ _) ?_
      unfold ref01_Shift.e33
      have e1 : IntKind.i64.wrap ((i : Int) + 1) = ((i + 1 : Nat) : Int) := by rw [wrap_i64 (by omega) (by omega)]; omega
      rw [e1]
      exact ih (i + 1) o' (by omega) h'
    have e1 : IntKind.u64.wrap (s : Int) = (s : Int) := wrap_u64_id (by omega) (by omega)
    have e2 : IntKind.u64.wrap (IntKind.u64.wrap (nthD 0 a i) * 2 ^ min s 64) = nthD 0 a i * 2 ^ s := by
      have hy2 := hy.2
      simp only [B] at hy2
      rw [Nat.min_eq_left (by omega), wrap_u64_id hy.1 (by omega), wrap_u64_id hb0 hb]
    have e3 : IntKind.u32.wrap (nthD 0 a i * 2 ^ s) = nthD 0 a i * 2 ^ s % B := wrap_u32 _
    have e4 : IntKind.u32.wrap (Int.fdiv (nthD 0 a i * 2 ^ s) (2 ^ 32)) = nthD 0 a i * 2 ^ s / B := by
      rw [Int.fdiv_eq_ediv_of_nonneg _ (by omega)]
      exact wrap_u32_id h0 (by show nthD 0 a i * 2 ^ s / B < 4294967296; omega)
    refine Ev.turn (fun k => ref01_Shift.p0_succ k _ _ _ _ _ _) ?_
    unfold ref01_Shift.e0
    simp only [e1, e2, e3, Int.toNat_natCast]
    refine Ev.tru (dec_t (by omega)) (Ev.tru (by simp; omega) (Ev.fls (dec_f (by omega)) ?_))
    by_cases hc : K ≤ i + J
    · obtain ⟨p, hp⟩ : ∃ p, i + J = p + K := ⟨i + J - K, by omega⟩
      have e5 : IntKind.i64.wrap ((i : Int) + ((J : Int) - (K : Int))) = (p : Int) := by rw [wrap_i64 (by omega) (by omega)]; omega
      have e6 : IntKind.i64.wrap ((p : Int) + 1) = ((p + 1 : Nat) : Int) := by rw [wrap_i64 (by omega) (by omega)]; omega
      have hx := h.lim.get' p
      have hxe := h.edge hc
      rw [show i + J - K = p by omega] at hxe
      have e7 := or_low (u := s) (x := nthD 0 o p) (y := nthD 0 a i) (by omega) ⟨hx.1, hxe⟩ hy.1
      have hSp := hS i p (by omega) hp
      have hol := h.len
      simp only [e5, Int.toNat_natCast, e7]
      refine Ev.tru (dec_t (by omega)) (Ev.tru (dec_t (by omega)) (Ev.tru (by simp; omega) (Ev.tru (by simp; omega) ?_)))
      refine Ev.turn (fun k => ref01_Shift.p41_succ k _ _ _ _ _ _ _) ?_
      unfold ref01_Shift.e41
      simp only [e5, e6, e4, Int.toNat_natCast]
      refine Ev.tru (dec_t (by omega)) ?_
      rcases hSp with hSp | ⟨hSp, hz⟩
      · have e8 : nthD 0 (setN (nthD 0 o p + nthD 0 a i * 2 ^ s % B) o p) (p + 1) = 0 := by rw [nthD_setN, if_neg (by omega)]; exact h.zero _ (by omega)
        rw [e8, or_high (u := 0) (by omega) rfl ⟨h0, by omega⟩]
        refine Ev.tru (dec_t (by omega)) (Ev.tru (by simp [length_setN]; omega) (Ev.tru (by simp [length_setN]; omega) ?_))
        exact step _ (n1 p hp hSp)
      · refine Ev.fls (dec_f (by omega)) ?_
        exact step _ (n2 p hp hSp hz)
    · have e5 : IntKind.i64.wrap ((i : Int) + ((J : Int) - (K : Int))) = (i : Int) + ((J : Int) - (K : Int)) := wrap_i64 (by omega) (by omega)
      have e6 : IntKind.i64.wrap ((i : Int) + ((J : Int) - (K : Int)) + 1) = (i : Int) + ((J : Int) - (K : Int)) + 1 := wrap_i64 (by omega) (by omega)
      simp only [e5]
      refine Ev.fls (dec_f (by omega)) ?_
      refine Ev.turn (fun k => ref01_Shift.p41_succ k _ _ _ _ _ _ _) ?_
      unfold ref01_Shift.e41
      simp only [e5, e6, e4]
      by_cases hc2 : i + 1 + J = K
      · have hz := h.zero 0 (by omega)
        have e8 : ((i : Int) + ((J : Int) - (K : Int)) + 1).toNat = 0 := by omega
        have hol := h.len
        have hS1 := hS0 (by omega)
        rw [e8, hz, or_high (u := 0) (by omega) rfl ⟨h0, by omega⟩]
        refine Ev.tru (dec_t (by omega)) (Ev.tru (dec_t (by omega)) (Ev.tru (by simp; omega) (Ev.tru (by simp; omega) ?_)))
        exact step _ (n3 hc2 hS1)
      · refine Ev.fls (dec_f (by omega)) ?_
        exact step _ (n4 (by omega))

theorem shi_start {a : List Int} {s J K S : Nat} : Shi a s J K S 0 (List.replicate S 0) :=
  ⟨Lim_replicate_zero _, by simp, by simp [V, V_replicate_zero], fun _ => by rw [nthD_zeros]; exact Int.pow_pos (by omega), fun j _ => nthD_zeros _ _⟩

theorem Nt.rshift_down {M m : Nat} {a : List Int} (ha : Nt M a m) (hM : M ≤ 17592186044415) (n : Nat) (hn : n ≤ 1048576) (hn0 : 0 < n) : Ev (fun k => ref01_Shift.f k a (-(n : Int))) (FK.lim (m / 2 ^ n), (0 : Int)) := by
  have la := ha.len
  unfold ref01_Shift.f ref01_Shift.e
  refine Ev.fls (dec_f (by omega)) (Ev.fls (dec_f (by omega)) (Ev.bind (ha.rNorm (by omega)) ?_))
  by_cases hm : m = 0
  · subst hm
    rw [lim_zero, Nat.zero_div, lim_zero]
    exact Ev.tru (by simp) Ev.pure
  · have hL := L_pos hm
    have ha0 : 0 < a.length := by
      rcases Nat.eq_zero_or_pos a.length with h | h
      · exfalso
        have h2 := ha.val
        rw [List.length_eq_zero_iff.1 h] at h2
        simp only [V] at h2
        omega
      · exact h
    refine Ev.fls (dec_f (by unfold FK.L at hL; omega)) (Ev.fls (dec_f (by omega)) ?_)
    refine Ev.turn (fun k => ref01_Shift.p17_succ k _ _ _) ?_
    unfold ref01_Shift.e17
    have e1 : Int.tmod (-(n : Int)) 32 = -((n % 32 : Nat) : Int) := by rw [Int.neg_tmod, Int.tmod_eq_emod_of_nonneg (by omega)]; omega
    have e2 : IntKind.i64.wrap (Int.tdiv (-(n : Int)) 32) = -((n / 32 : Nat) : Int) := by rw [Int.neg_tdiv, Int.tdiv_eq_ediv_of_nonneg (by omega), wrap_i64 (by omega) (by omega)]; omega
    simp only [e1, e2, Int.toNat_natCast]
    refine Ev.tru (by simp; omega) ?_
    have hval : ∀ s K : Nat, n + s = 32 * K → (V a * 2 ^ s * B ^ 0 / B ^ K).toNat = m / 2 ^ n := by
      intro s K h
      rw [ha.val, Int.pow_zero, Int.mul_one]
      have : (B : Int) ^ K = ((2 ^ (n + s) : Nat) : Int) := by rw [h, Nat.pow_mul, Int.natCast_pow]; rfl
      rw [this]
      have e2 : (2 : Int) ^ s = ((2 ^ s : Nat) : Int) := by rw [Int.natCast_pow]; rfl
      rw [e2, ← Int.natCast_mul, ← Int.natCast_ediv, Int.toNat_natCast, Nat.pow_add, Nat.mul_div_mul_right _ _ (Nat.pow_pos (by omega))]
    by_cases hr : n % 32 = 0
    · refine Ev.fls (dec_f (by omega)) ?_
      refine Ev.turn (fun k => ref01_Shift.p29_succ k _ _ _ _ _) ?_
      unfold ref01_Shift.e29
      have := rshift_p0 (a := a) (s := 0) (J := 0) (K := n / 32) (S := a.length) ha.lim (by omega) (by omega) (by omega) (by omega) (by omega) (Or.inl rfl) (by
        intro i p hi hp
        exact Or.inl (by omega)) (by omega) a.length 0 _ (by omega) shi_start
      rw [hval 0 (n / 32) (by omega)] at this
      simpa [hr] using this
    · refine Ev.tru (dec_t (by omega)) ?_
      refine Ev.turn (fun k => ref01_Shift.p29_succ k _ _ _ _ _) ?_
      unfold ref01_Shift.e29
      have e3 : IntKind.i64.wrap (-((n / 32 : Nat) : Int) - 1) = ((0 : Nat) : Int) - ((n / 32 + 1 : Nat) : Int) := by rw [wrap_i64 (by omega) (by omega)]; omega
      have e4 : IntKind.i64.wrap (-((n % 32 : Nat) : Int) + 32) = ((32 - n % 32 : Nat) : Int) := by rw [wrap_i64 (by omega) (by omega)]; omega
      rw [e3, e4]
      have := rshift_p0 (a := a) (s := 32 - n % 32) (J := 0) (K := n / 32 + 1) (S := a.length) ha.lim (by omega) (by omega) (by omega) (by omega) (by omega) (Or.inl rfl) (by
        intro i p hi hp
        exact Or.inl (by omega)) (by omega) a.length 0 _ (by omega) shi_start
      rw [hval _ _ (by omega)] at this
      exact this

end Go.FK


/- The plain law: the reference's division and greatest common divisor. -/
namespace Go.FK

theorem V_drop {l : List Int} (h : Lim l) (j : Nat) (hj : j ≤ l.length) : V (l.drop j) = V l / B ^ j := by
  have h1 := V_split l j hj
  have h2 := V_bounds h j hj
  have h3 := Bpow_pos j
  rw [h1, Int.add_mul_ediv_left _ _ (by omega), Int.ediv_eq_zero_of_lt h2.1 h2.2, Int.zero_add]

theorem or_bit {x s c : Nat} (hs : s < 32) (hx : x = 2 ^ (s + 1) * c) (hlt : x < 4294967296) : bitsI .or .u32 (x : Int) (IntKind.u32.wrap (1 * 2 ^ min s 32)) = ((x + 2 ^ s : Nat) : Int) ∧ x + 2 ^ s < 4294967296 := by
  have hp : (2 : Nat) ^ s ≤ 2 ^ 31 := Nat.pow_le_pow_right (by omega) (by omega)
  have hp0 : 0 < (2 : Nat) ^ s := Nat.pow_pos (by omega)
  have hp1 : (2 : Nat) ^ (s + 1) = 2 ^ s * 2 := Nat.pow_succ ..
  have hp2 : (2 : Nat) ^ (s + 1) * 2 ^ (32 - (s + 1)) = 4294967296 := by rw [← Nat.pow_add, show s + 1 + (32 - (s + 1)) = 32 by omega]
  have e1 : IntKind.u32.wrap (1 * 2 ^ min s 32) = ((2 ^ s : Nat) : Int) := by
    rw [Nat.min_eq_left (by omega), Int.one_mul]
    have : (2 : Int) ^ s = ((2 ^ s : Nat) : Int) := by rw [Int.natCast_pow]; rfl
    rw [this, wrap_u32_id (by omega) (by omega)]
  have hc : c < 2 ^ (32 - (s + 1)) := by
    rw [hx, ← hp2] at hlt
    exact Nat.lt_of_mul_lt_mul_left hlt
  have hsum : x + 2 ^ s < 4294967296 := by
    have : 2 ^ (s + 1) * (c + 1) ≤ 2 ^ (s + 1) * 2 ^ (32 - (s + 1)) := Nat.mul_le_mul_left _ hc
    rw [hp2, Nat.mul_add, ← hx] at this
    omega
  refine ⟨?_, hsum⟩
  rw [e1, bits_or32 (by omega) (by omega)]
  simp only [Int.toNat_natCast]
  have hps : (2 : Nat) ^ s < 2 ^ (s + 1) := by omega
  rw [hx, Nat.two_pow_add_eq_or_of_lt hps]

theorem half_step (m t : Nat) : m / 2 ^ t = 2 * (m / 2 ^ (t + 1)) + (m.testBit t).toNat := by
  rw [Nat.pow_succ, ← Nat.div_div_eq_div_mul, Nat.testBit_eq_decide_div_mod_eq]
  by_cases h : m / 2 ^ t % 2 = 1
  · simp [h]; omega
  · simp [h]; omega

theorem rDiv_p0 {m n : Nat} (hn : n ≠ 0) (hm : L m ≤ 17592186044415) (hnL : L n ≤ 17592186044415) : ∀ (t : Nat) (q : List Int), t ≤ 32 * L m → q.length = L m → Lim q → V q = ((m / 2 ^ t / n * 2 ^ t : Nat) : Int) →
    Ev (fun k => ref01_Div.p0 k q (lim m) (lim n) (lim (m / 2 ^ t % n)) ((t : Int) - 1)) (lim (m / n), lim (m % n), (0 : Int)) := by
  have am : Nt (L m) (lim m) m := Nt.of (Nat.le_refl _)
  have bn : Nt (L n) (lim n) n := Nt.of (Nat.le_refl _)
  intro t
  induction t with
  | zero =>
    intro q _ hq hlq hV
    refine Ev.turn (fun k => ref01_Div.p0_succ k _ _ _ _ _) ?_
    unfold ref01_Div.e0
    refine Ev.fls (by simp) ?_
    simp only [Nat.pow_zero, Nat.div_one, Nat.mul_one] at hV ⊢
    have n1 : Nt (L m) q (m / n) := ⟨hlq, hV, by omega⟩
    exact Ev.bind (n1.rNorm (by omega)) Ev.pure
  | succ i ih =>
    intro q hi hq hlq hV
    refine Ev.turn (fun k => ref01_Div.p0_succ k _ _ _ _ _) ?_
    unfold ref01_Div.e0
    have e0 : ((i + 1 : Nat) : Int) - 1 = (i : Int) := by omega
    have e1 : IntKind.i64.wrap (Int.tdiv (i : Int) 32) = ((i / 32 : Nat) : Int) := by
      rw [Int.tdiv_eq_ediv_of_nonneg (by omega), wrap_i64 (by omega) (by omega)]; omega
    have e2 : IntKind.u64.wrap (Int.tmod (i : Int) 32) = ((i % 32 : Nat) : Int) := by
      rw [Int.tmod_eq_emod_of_nonneg (by omega), wrap_u64_id (by omega) (by omega)]; omega
    have hst := half_step m i
    generalize hX : m / 2 ^ (i + 1) = X at *
    generalize hb : (m.testBit i).toNat = b at *
    have hb1 : b ≤ 1 := by rw [← hb]; exact Bool.toNat_le _
    have hr := Nat.mod_lt X (show 0 < n by omega)
    have hrn : Nt (L n) (lim (X % n)) (X % n) := Nt.of (L_mono (by omega))
    have htw := hrn.twice (by omega) (m.testBit i)
    rw [hb] at htw
    have hdm := Nat.div_add_mod X n
    have hL2 : L (2 * (X % n) + b) ≤ L n + 1 := by
      apply Nat.le_trans (L_mono (show 2 * (X % n) + b ≤ n + n by omega))
      have := L_add n n
      omega
    have h2 : Nt (L n + 1) (lim (2 * (X % n) + b)) (2 * (X % n) + b) := Nt.of hL2
    have hcmp := h2.rcmp (bn.mono (by omega)) (by omega)
    -- behind a bit
    have back : ∀ (q' : List Int) (R : Nat), q'.length = L m → Lim q' → V q' = ((m / 2 ^ i / n * 2 ^ i : Nat) : Int) → R = m / 2 ^ i % n →
        Ev (fun k => ref01_Div.p25 k q' (lim m) (lim n) (lim R) (i : Int)) (lim (m / n), lim (m % n), (0 : Int)) := by
      intro q' R h1 h2 h3 h4
      refine Ev.turn (fun k => ref01_Div.p25_succ k _ _ _ _ _) ?_
      unfold ref01_Div.e25
      rw [wrap_i64 (by omega) (by omega), h4]
      exact ih q' (by omega) h1 h2 h3
    simp only [e0, e1, e2, Int.toNat_natCast]
    refine Ev.tru (by simp) ?_
    have hbit : Ev (fun k => ref01_Bit.f k (lim m) (i : Int)) (m.testBit i) := ⟨0, fun k _ => bit_eq am (by omega) i (by omega)⟩
    refine Ev.bind hbit (Ev.bind htw (Ev.bind hcmp ?_))
    have hp0 : 0 < 2 ^ i := Nat.pow_pos (by omega)
    have hpi : 2 ^ (i + 1) = 2 * 2 ^ i := by rw [Nat.pow_succ, Nat.mul_comm]
    by_cases hge : n ≤ 2 * (X % n) + b
    · have hnew : m / 2 ^ i / n = 2 * (X / n) + 1 ∧ m / 2 ^ i % n = 2 * (X % n) + b - n := by
        rw [hst]
        have e : 2 * X + b = (2 * (X % n) + b - n) + n * (2 * (X / n) + 1) := by
          have : n * (2 * (X / n) + 1) = 2 * (n * (X / n)) + n := by rw [Nat.mul_add, Nat.mul_left_comm, Nat.mul_one]
          omega
        have hlt : 2 * (X % n) + b - n < n := by omega
        rw [e, Nat.add_mul_div_left _ _ (Nat.pos_of_ne_zero hn), Nat.add_mul_mod_self_left, Nat.mod_eq_of_lt hlt, Nat.div_eq_of_lt hlt]
        exact ⟨Nat.zero_add _, rfl⟩
      refine Ev.tru (dec_t ?_) ?_
      · unfold sgn
        by_cases h1 : ((2 * (X % n) + b : Nat) : Int) = n
        · rw [if_neg (by omega), if_pos h1]; omega
        · rw [if_neg (by omega), if_neg h1]; omega
      refine Ev.bind (h2.rsub (bn.mono (by omega)) (by omega) hge) ?_
      have nq : Nt (L m) q (X / n * 2 ^ (i + 1)) := ⟨hlq, hV, by omega⟩
      have hg := nq.get (i / 32)
      obtain ⟨c, hc⟩ : ∃ c, X / n * 2 ^ (i + 1) / 2 ^ (32 * (i / 32)) % 4294967296 = 2 ^ (i % 32 + 1) * c := by
        refine ⟨X / n % 2 ^ (32 - (i % 32 + 1)), ?_⟩
        have e3 : i + 1 = (i % 32 + 1) + 32 * (i / 32) := by omega
        have e4 : (4294967296 : Nat) = 2 ^ (i % 32 + 1) * 2 ^ (32 - (i % 32 + 1)) := by rw [← Nat.pow_add, show i % 32 + 1 + (32 - (i % 32 + 1)) = 32 by omega]
        have e5 : X / n * 2 ^ (i + 1) / 2 ^ (32 * (i / 32)) = 2 ^ (i % 32 + 1) * (X / n) := by
          have e6 : 2 ^ (i + 1) = 2 ^ (i % 32 + 1) * 2 ^ (32 * (i / 32)) := by rw [← Nat.pow_add, ← e3]
          rw [e6, ← Nat.mul_assoc, Nat.mul_div_cancel _ (Nat.pow_pos (by omega)), Nat.mul_comm]
        rw [e5, e4, Nat.mul_mod_mul_left]
      obtain ⟨o1, o2⟩ := or_bit (s := i % 32) (by omega) hc (Nat.mod_lt _ (by omega))
      rw [← hg] at o1
      simp only [o1]
      refine Ev.tru (by simp; omega) (Ev.fls (dec_f (by omega)) (Ev.tru (by simp; omega) ?_))
      refine back _ _ (by rw [length_setN]; exact hq) (hlq.set ⟨Int.natCast_nonneg _, Int.ofNat_lt.2 o2⟩) ?_ hnew.2.symm
      rw [V_setN _ _ _ (by omega), hV, hg, hnew.1, hpi]
      have e7 : B ^ (i / 32) = ((2 ^ (32 * (i / 32)) : Nat) : Int) := by rw [Nat.pow_mul, Int.natCast_pow]; rfl
      have e8 : 2 ^ (32 * (i / 32)) * 2 ^ (i % 32) = 2 ^ i := by rw [← Nat.pow_add, show 32 * (i / 32) + i % 32 = i by omega]
      rw [e7]
      generalize X / n * 2 ^ (i + 1) / 2 ^ (32 * (i / 32)) % 4294967296 = y at *
      have e9 : ((y + 2 ^ (i % 32) : Nat) : Int) - (y : Int) = ((2 ^ (i % 32) : Nat) : Int) := by omega
      have e10 : ∀ z : Nat, ((z + 2 ^ (i % 32) : Nat) : Int) - (z : Int) = ((2 ^ (i % 32) : Nat) : Int) := fun z => by omega
      rw [e10, ← Int.natCast_mul, e8, ← Int.natCast_add]
      congr 1
      rw [Nat.add_mul, Nat.one_mul, Nat.mul_assoc 2, Nat.mul_left_comm]
    · have hnew : m / 2 ^ i / n = 2 * (X / n) ∧ m / 2 ^ i % n = 2 * (X % n) + b := by
        rw [hst]
        have e : 2 * X + b = (2 * (X % n) + b) + n * (2 * (X / n)) := by
          have : n * (2 * (X / n)) = 2 * (n * (X / n)) := by rw [Nat.mul_left_comm]
          omega
        have hlt : 2 * (X % n) + b < n := by omega
        rw [e, Nat.add_mul_div_left _ _ (Nat.pos_of_ne_zero hn), Nat.add_mul_mod_self_left, Nat.mod_eq_of_lt hlt, Nat.div_eq_of_lt hlt]
        exact ⟨Nat.zero_add _, rfl⟩
      refine Ev.fls (dec_f (by rw [sgn_lt (by omega)]; omega)) ?_
      refine back _ _ hq hlq ?_ hnew.2.symm
      rw [hV, hnew.1, hpi, Nat.mul_assoc 2, Nat.mul_left_comm]

theorem Nt.rdiv {M m n : Nat} {a b : List Int} (ha : Nt M a m) (hb : Nt M b n) (hM : M ≤ 17592186044415) (hn : n ≠ 0) : Ev (fun k => ref01_Div.f k a b) (FK.lim (m / n), FK.lim (m % n), (0 : Int)) := by
  have lm := ha.L
  have ln := hb.L
  have hn1 := L_pos hn
  have htop := (lim_top hn).2.2.1
  unfold ref01_Div.f ref01_Div.e
  refine Ev.bind (hb.rNorm (by omega)) ?_
  refine Ev.fls (dec_f (by unfold FK.L at hn1; omega)) (Ev.bind (ha.rNorm (by omega)) ?_)
  refine Ev.tru (by unfold FK.L at lm; simp; omega) ?_
  have hlm : (FK.lim m).length = FK.L m := rfl
  have hln : (FK.lim n).length = FK.L n := rfl
  have go : ∀ high : Nat, high ≤ FK.L m → high ≤ FK.L n - 1 → Ev (fun k => ref01_Div.p19 k (List.replicate (FK.L m) 0) (FK.lim m) (FK.lim n) (high : Int)) (FK.lim (m / n), FK.lim (m % n), (0 : Int)) := by
    intro high h1 h2
    refine Ev.turn (fun k => ref01_Div.p19_succ k _ _ _ _) ?_
    unfold ref01_Div.e19
    have e1 : IntKind.i64.wrap ((FK.L m : Int) - (high : Int)) = ((FK.L m - high : Nat) : Int) := by rw [wrap_i64 (by omega) (by omega)]; omega
    have e2 : IntKind.i64.wrap (IntKind.i64.wrap (32 * ((FK.L m - high : Nat) : Int)) - 1) = ((32 * (FK.L m - high) : Nat) : Int) - 1 := by
      rw [wrap_i64 (n := 32 * ((FK.L m - high : Nat) : Int)) (by omega) (by omega), wrap_i64 (by omega) (by omega)]; omega
    simp only [hlm, e1, e2, Int.toNat_natCast]
    refine Ev.tru (by simp) ?_
    have e3 : List.take (FK.L m) (FK.lim m) = FK.lim m := List.take_of_length_le (by omega)
    rw [e3]
    have hX : V ((FK.lim m).drop (FK.L m - high)) = ((m / 2 ^ (32 * (FK.L m - high)) : Nat) : Int) := by
      rw [V_drop (Lim_lim m) _ (by omega), V_lim]
      have e7 : B ^ (FK.L m - high) = ((2 ^ (32 * (FK.L m - high)) : Nat) : Int) := by rw [Nat.pow_mul, Int.natCast_pow]; rfl
      rw [e7]; rfl
    have n1 : Nt high ((FK.lim m).drop (FK.L m - high)) (m / 2 ^ (32 * (FK.L m - high))) := ⟨(Lim_lim m).drop _, hX, by simp; omega⟩
    have hlt : m / 2 ^ (32 * (FK.L m - high)) < n := by
      have h3 : V ((FK.lim m).drop (FK.L m - high)) < B ^ ((FK.lim m).drop (FK.L m - high)).length := V_lt ((Lim_lim m).drop _)
      rw [hX] at h3
      have h4 : B ^ ((FK.lim m).drop (FK.L m - high)).length ≤ B ^ (FK.L n - 1) := Bpow_le (by simp; omega)
      have h5 : ((m / 2 ^ (32 * (FK.L m - high)) : Nat) : Int) < (n : Int) := by
        exact Int.lt_of_lt_of_le h3 (Int.le_trans h4 htop)
      exact Int.ofNat_lt.1 h5
    refine Ev.bind (n1.rNorm (by omega)) ?_
    have := rDiv_p0 (m := m) hn (by omega) (by omega) (32 * (FK.L m - high)) (List.replicate (FK.L m) 0) (by omega) (by simp) (Lim_replicate_zero _) (by rw [V_replicate_zero, Nat.div_eq_of_lt hlt]; simp)
    rw [Nat.mod_eq_of_lt hlt] at this
    exact this
  have e1 : IntKind.i64.wrap ((FK.L n : Int) - 1) = ((FK.L n - 1 : Nat) : Int) := by rw [wrap_i64 (by omega) (by omega)]; omega
  simp only [hlm, hln, e1, Int.toNat_natCast]
  by_cases h : FK.L m < FK.L n - 1
  · exact Ev.tru (dec_t (by omega)) (go _ (Nat.le_refl _) (by omega))
  · exact Ev.fls (dec_f (by omega)) (go _ (by omega) (Nat.le_refl _))

/-! ### Gcd -/
theorem sgn_zero_iff {x y : Int} : sgn x y = 0 ↔ x = y := by
  unfold sgn
  by_cases h1 : x < y
  · rw [if_pos h1]; omega
  · rw [if_neg h1]
    by_cases h2 : x = y
    · rw [if_pos h2]; omega
    · rw [if_neg h2]; omega
theorem testBit0 (n : Nat) : n.testBit 0 = decide (n % 2 = 1) := by rw [Nat.testBit_eq_decide_div_mod_eq]; simp

theorem gcd_half_left {a b : Nat} (ha : a % 2 = 0) (hb : b % 2 = 1) : Nat.gcd (a / 2) b = Nat.gcd a b := by
  have h : Nat.Coprime 2 b := by
    rw [Nat.coprime_iff_gcd_eq_one, Nat.gcd_rec, hb]
    decide
  have e : a = 2 * (a / 2) := by omega
  conv => rhs; rw [e]
  exact (h.gcd_mul_left_cancel _).symm

section
variable {M : Nat}

theorem rGcd_bit (hM : M ≤ 17592186044415) {a : Nat} (ha : L a ≤ M) : Ev (fun k => ref01_Bit.f k (lim a) 0) (decide (a % 2 = 1)) := by
  have := fun k => bit_eq (k := k) (Nt.of ha) (by omega) 0 (by omega)
  rw [← testBit0]
  exact ⟨0, fun k _ => this k⟩
theorem rGcd_half (hM : M ≤ 17592186044415) {a : Nat} (ha : L a ≤ M) : Ev (fun k => ref01_Shift.f k (lim a) (-1)) (lim (a / 2), (0 : Int)) := by
  have := (Nt.of ha).rshift_down hM 1 (by omega) (by omega)
  simpa using this

theorem rGcd_p16 (hM : M ≤ 17592186044415) (twos : Nat) (ht : twos ≤ 1000000000000000000) (g R : Nat) (hR : R = g * 2 ^ twos) (hL : L R ≤ M) : ∀ (m i : Nat), m + i = twos → Ev (fun k => ref01_Gcd.p16 k (lim (g * 2 ^ i)) (twos : Int) (i : Int)) (lim R) := by
  intro m
  induction m with
  | zero =>
    intro i hi
    have hi : i = twos := by omega
    subst hi
    refine Ev.turn (fun k => ref01_Gcd.p16_succ k _ _ _) ?_
    unfold ref01_Gcd.e16
    rw [hR]
    exact Ev.fls (by simp) Ev.pure
  | succ m ih =>
    intro i hi
    refine Ev.turn (fun k => ref01_Gcd.p16_succ k _ _ _) ?_
    unfold ref01_Gcd.e16
    have hl : L (g * 2 ^ i) ≤ M := Nat.le_trans (L_mono (by rw [hR]; exact Nat.mul_le_mul_left _ (Nat.pow_le_pow_right (by omega) (by omega)))) hL
    have := (Nt.of hl).twice (by omega) false
    have e : 2 * (g * 2 ^ i) + false.toNat = g * 2 ^ (i + 1) := by rw [Nat.pow_succ, Nat.mul_comm (2 ^ i), Nat.mul_left_comm]; simp
    rw [e] at this
    refine Ev.tru (dec_t (by omega)) (Ev.bind this ?_)
    rw [wrap_i64 (by omega) (by omega)]
    have e2 : (i : Int) + 1 = ((i + 1 : Nat) : Int) := by omega
    rw [e2]
    exact ih (i + 1) (by omega)

/-- The loop: one of the two is odd. -/
theorem rGcd_main (hM : M ≤ 17592186044415) (twos : Nat) (ht : twos ≤ 1000000000000000000) (g R : Nat) (hR : R = g * 2 ^ twos) (hLR : L R ≤ M) : ∀ (N a b : Nat), a + b ≤ N → a ≠ 0 → L a ≤ M → L b ≤ M → (a % 2 = 1 ∨ b % 2 = 1) → Nat.gcd a b = g →
    Ev (fun k => ref01_Gcd.p4 k (lim a) (lim b) (twos : Int)) (lim R) ∧ (b ≠ 0 → Ev (fun k => ref01_Gcd.p8 k (lim a) (lim b) (twos : Int)) (lim R)) ∧ (b ≠ 0 → a % 2 = 1 → Ev (fun k => ref01_Gcd.p12 k (lim a) (lim b) (twos : Int)) (lim R)) := by
  intro N
  induction N with
  | zero => intro a b h1 h2; omega
  | succ N ih =>
    intro a b hN ha la lb hodd hg
    -- b made odd, the lesser taken off
    have p12 : b ≠ 0 → a % 2 = 1 → Ev (fun k => ref01_Gcd.p12 k (lim a) (lim b) (twos : Int)) (lim R) := by
      intro hb0 hao
      refine Ev.turn (fun k => ref01_Gcd.p12_succ k _ _ _) ?_
      unfold ref01_Gcd.e12
      refine Ev.bind (rGcd_bit hM lb) ?_
      by_cases hbo : b % 2 = 1
      · refine Ev.fls (by simp [hbo]) (Ev.bind ((Nt.of la).rcmp (Nt.of lb) (by omega)) ?_)
        have sub : ∀ x y : Nat, x ≤ y → x % 2 = 1 → x + y ≤ N + 1 → L x ≤ M → L y ≤ M → Nat.gcd x y = g → Ev (fun k => ref01_Gcd.p45 k (lim x) (lim y) (twos : Int)) (lim R) := by
          intro x y hxy hx1 hs lx ly hg'
          refine Ev.turn (fun k => ref01_Gcd.p45_succ k _ _ _) ?_
          unfold ref01_Gcd.e45
          refine Ev.bind ((Nt.of ly).rsub (Nt.of lx) (by omega) hxy) ?_
          exact (ih x (y - x) (by omega) (by omega) lx (Nat.le_trans (L_sub _ _) ly) (Or.inl hx1) (by rw [Nat.gcd_sub_self_right hxy]; exact hg')).1
        by_cases hgt : b < a
        · rw [sgn_gt (by omega)]
          refine Ev.tru (by simp) ?_
          exact sub b a (by omega) hbo (by omega) lb la (by rw [Nat.gcd_comm]; exact hg)
        · refine Ev.fls (dec_f ?_) (sub a b (by omega) hao (by omega) la lb hg)
          unfold sgn
          by_cases h1 : (a : Int) = b
          · rw [if_neg (by omega), if_pos h1]; omega
          · rw [if_pos (by omega)]; omega
      · refine Ev.tru (by simp; omega) (Ev.bind (rGcd_half hM lb) ?_)
        have hlb : L (b / 2) ≤ M := Nat.le_trans (L_div _ _) lb
        exact (ih a (b / 2) (by omega) ha la hlb (Or.inl hao) (by rw [Nat.gcd_comm, gcd_half_left (by omega) hao, Nat.gcd_comm]; exact hg)).2.2 (by omega) hao
    have p8 : b ≠ 0 → Ev (fun k => ref01_Gcd.p8 k (lim a) (lim b) (twos : Int)) (lim R) := by
      intro hb0
      refine Ev.turn (fun k => ref01_Gcd.p8_succ k _ _ _) ?_
      unfold ref01_Gcd.e8
      refine Ev.bind (rGcd_bit hM la) ?_
      by_cases hao : a % 2 = 1
      · exact Ev.fls (by simp [hao]) (p12 hb0 hao)
      · refine Ev.tru (by simp; omega) (Ev.bind (rGcd_half hM la) ?_)
        have hla : L (a / 2) ≤ M := Nat.le_trans (L_div _ _) la
        exact (ih (a / 2) b (by omega) (by omega) hla lb (by omega) (by rw [gcd_half_left (by omega) (by omega)]; exact hg)).2.1 hb0
    refine ⟨?_, p8, p12⟩
    refine Ev.turn (fun k => ref01_Gcd.p4_succ k _ _ _) ?_
    unfold ref01_Gcd.e4
    by_cases hb0 : b = 0
    · subst hb0
      rw [lim_zero]
      refine Ev.fls (by simp) ?_
      rw [Nat.gcd_zero_right] at hg
      have := rGcd_p16 hM twos ht g R hR hLR twos 0 (by omega)
      rw [Nat.pow_zero, Nat.mul_one] at this
      rw [hg]
      exact this
    · have := L_pos hb0
      refine Ev.tru (dec_t (by unfold L at this; omega)) (p8 hb0)

theorem rGcd_p0 (hM : M ≤ 17592186044415) (R A : Nat) (hA : L A ≤ M) : ∀ (N a b twos : Nat), a + b ≤ N → a ≠ 0 → b ≠ 0 → L a ≤ M → L b ≤ M → a * 2 ^ twos ≤ A → Nat.gcd a b * 2 ^ twos = R → Ev (fun k => ref01_Gcd.p0 k (lim a) (lim b) (twos : Int)) (lim R) := by
  intro N
  induction N with
  | zero => intro a b _ h1 h2; omega
  | succ N ih =>
    intro a b twos hN ha hb la lb hx hR
    have hLR : L R ≤ M := by
      refine Nat.le_trans (L_mono ?_) hA
      rw [← hR]
      exact Nat.le_trans (Nat.mul_le_mul_right _ (Nat.gcd_le_left _ (by omega))) hx
    have ht : twos ≤ 1000000000000000 := by
      have h1 : 2 ^ twos ≤ a * 2 ^ twos := Nat.le_mul_of_pos_left _ (by omega)
      have h2 : 2 ^ twos < 2 ^ (32 * M) := by
        have h3 := L_lt A
        have h4 : (4294967296 : Nat) ^ L A ≤ 4294967296 ^ M := Nat.pow_le_pow_right (by omega) hA
        have h5 : (4294967296 : Nat) ^ M = 2 ^ (32 * M) := by rw [Nat.pow_mul]
        omega
      have := (Nat.pow_lt_pow_iff_right (by omega : 1 < 2)).1 h2
      omega
    refine Ev.turn (fun k => ref01_Gcd.p0_succ k _ _ _) ?_
    unfold ref01_Gcd.e0
    refine Ev.bind (rGcd_bit hM la) ?_
    by_cases hao : a % 2 = 1
    · refine Ev.fls (by simp [hao]) ?_
      exact (rGcd_main hM twos (by omega) _ R hR.symm hLR _ a b (Nat.le_refl _) ha la lb (Or.inl hao) rfl).1
    · refine Ev.tru (by simp; omega) (Ev.bind (rGcd_bit hM lb) ?_)
      by_cases hbo : b % 2 = 1
      · refine Ev.fls (by simp [hbo]) ?_
        exact (rGcd_main hM twos (by omega) _ R hR.symm hLR _ a b (Nat.le_refl _) ha la lb (Or.inr hbo) rfl).1
      · refine Ev.tru (by simp; omega) (Ev.bind (rGcd_half hM la) (Ev.bind (rGcd_half hM lb) ?_))
        have hla : L (a / 2) ≤ M := Nat.le_trans (L_div _ _) la
        have hlb : L (b / 2) ≤ M := Nat.le_trans (L_div _ _) lb
        rw [wrap_i64 (by omega) (by omega)]
        have e2 : (twos : Int) + 1 = ((twos + 1 : Nat) : Int) := by omega
        rw [e2]
        refine ih (a / 2) (b / 2) (twos + 1) (by omega) (by omega) (by omega) hla hlb ?_ ?_
        · refine Nat.le_trans ?_ hx
          rw [Nat.pow_succ, Nat.mul_comm (2 ^ twos), ← Nat.mul_assoc]
          exact Nat.mul_le_mul_right _ (by omega)
        · rw [← hR, Nat.pow_succ, Nat.mul_comm (2 ^ twos), ← Nat.mul_assoc]
          congr 1
          have h1 : a = 2 * (a / 2) := by omega
          have h2 : b = 2 * (b / 2) := by omega
          conv => rhs; rw [h1, h2]
          rw [Nat.gcd_mul_left, Nat.mul_comm]
end

theorem Nt.rgcd {M m n : Nat} {a b : List Int} (ha : Nt M a m) (hb : Nt M b n) (hM : M ≤ 17592186044415) : Ev (fun k => ref01_Gcd.f k a b) (FK.lim (Nat.gcd m n)) := by
  have la := ha.L
  have lb := hb.L
  unfold ref01_Gcd.f ref01_Gcd.e
  refine Ev.bind (ha.rNorm (by omega)) (Ev.bind (hb.rNorm (by omega)) ?_)
  by_cases h0 : m = 0
  · subst h0
    rw [Nat.gcd_zero_left, lim_zero]
    exact Ev.tru (by simp) Ev.pure
  have lm := L_pos h0
  refine Ev.fls (dec_f (by unfold FK.L at lm; omega)) ?_
  by_cases h1 : n = 0
  · subst h1
    rw [Nat.gcd_zero_right, lim_zero]
    exact Ev.tru (by simp) Ev.pure
  have ln := L_pos h1
  refine Ev.fls (dec_f (by unfold FK.L at ln; omega)) ?_
  have one : Nt M [1] 1 := ⟨Lim.mk (by simp [B]) Lim.nil, by simp [V], by simp; omega⟩
  have fin : ∀ {x : List Int}, x = FK.lim (Nat.gcd m n) → Ev (fun k => ref01_Gcd.p19 k x) (FK.lim (Nat.gcd m n)) := by
    intro x hx
    refine Ev.turn (fun k => ref01_Gcd.p19_succ k _) ?_
    unfold ref01_Gcd.e19
    rw [hx]
    exact Ev.pure
  refine Ev.bind ((Nt.of la).rcmp one (by omega)) ?_
  by_cases h2 : m = 1
  · subst h2
    refine Ev.tru (by simp [sgn]) (fin ?_)
    rw [Nat.gcd_one_left, lim_one]
  refine Ev.fls (dec_f (by rw [sgn_zero_iff]; omega)) (Ev.bind ((Nt.of lb).rcmp one (by omega)) ?_)
  by_cases h3 : n = 1
  · subst h3
    refine Ev.tru (by simp [sgn]) (fin ?_)
    rw [Nat.gcd_one_right, lim_one]
  refine Ev.fls (dec_f (by rw [sgn_zero_iff]; omega)) ?_
  exact rGcd_p0 hM (Nat.gcd m n) m la _ m n 0 (Nat.le_refl _) h0 h1 la lb (by simp) (by simp)
end Go.FK


/- The plain law: the reference's whole and rational numbers. -/
namespace Go.FK

theorem r2made_ev {M n : Nat} {b : Bool} {a : List Int} (h : Nt M a n) (hM : M ≤ 17592186044415) {z : Int} (hz : z = if b then -(n : Int) else n) : Ev (fun k => ref02_made.f k b a) (int z) := by
  unfold ref02_made.f ref02_made.e
  refine Ev.bind (h.rNorm (by omega)) ?_
  have hn : z.natAbs = n := by rw [hz]; split <;> omega
  unfold int
  rw [hn]
  cases b with
  | true =>
    refine Ev.tru rfl ?_
    have : decide (((FK.lim n).length : Int) > 0) = decide (z < 0) := by
      apply decide_eq_decide.2
      simp only [if_true] at hz
      by_cases h0 : n = 0
      · subst h0; rw [lim_zero]; simp; omega
      · have := L_pos h0
        unfold FK.L at this
        omega
    rw [this]
    exact Ev.pure
  | false =>
    refine Ev.fls rfl ?_
    have : decide (z < 0) = false := dec_f (by rw [hz]; simp)
    rw [this]
    exact Ev.pure

theorem Zt.zv {M : Nat} {a : Bool × List Int} {z : Int} (h : Zt M a z) : z = if a.1 then -(z.natAbs : Int) else z.natAbs := by
  have h1 := h.val
  have h2 := V_nonneg h.lim
  unfold Zv at h1
  split at h1 <;> rename_i h3
  · rw [if_pos h3]; omega
  · rw [if_neg h3]; omega

theorem Zt.rnorm {M : Nat} {a : Bool × List Int} {z : Int} (h : Zt M a z) (hM : M ≤ 17592186044415) : Ev (fun k => ref02_Norm.f k a) (int z) := by
  unfold ref02_Norm.f ref02_Norm.e
  exact Ev.bind (r2made_ev h.nt hM h.zv) Ev.pure
theorem Zt.rneg {M : Nat} {a : Bool × List Int} {z : Int} (h : Zt M a z) (hM : M ≤ 17592186044415) : Ev (fun k => ref02_Neg.f k a) (int (-z)) := by
  unfold ref02_Neg.f ref02_Neg.e
  refine Ev.bind (r2made_ev h.nt hM ?_) Ev.pure
  have := h.zv
  cases h1 : a.1 <;> rw [h1] at this <;> simp at this ⊢ <;> omega
theorem Zt.rsign {M : Nat} {a : Bool × List Int} {z : Int} (h : Zt M a z) (hM : M ≤ 17592186044415) : Ev (fun k => ref02_Sign.f k a) z.sign := by
  unfold ref02_Sign.f ref02_Sign.e
  refine Ev.bind (h.rnorm hM) ?_
  unfold int
  by_cases h0 : z < 0
  · refine Ev.tru (by simp [h0]) ?_
    rw [Int.sign_eq_neg_one_of_neg h0]
    exact Ev.pure
  · refine Ev.fls (by simp; omega) ?_
    by_cases h1 : z = 0
    · subst h1
      simp only [Int.natAbs_zero, lim_zero]
      exact Ev.fls (by simp) Ev.pure
    · have := L_pos (n := z.natAbs) (by omega)
      unfold FK.L at this
      refine Ev.tru (dec_t (by simp only []; omega)) ?_
      rw [Int.sign_eq_one_of_pos (by omega)]
      exact Ev.pure

theorem Zt.rmul {M : Nat} {a b : Bool × List Int} {y z : Int} (ha : Zt M a y) (hb : Zt M b z) (hM : M ≤ 8796093022207) : Ev (fun k => ref02_Mul.f k a b) (int (y * z)) := by
  unfold ref02_Mul.f ref02_Mul.e
  have hm := ha.nt.rmul hb.nt (by omega)
  have hL := L_mul y.natAbs z.natAbs
  have la := ha.nt.L
  have lb := hb.nt.L
  have n1 : Nt (2 * M) (FK.lim (y.natAbs * z.natAbs)) (y.natAbs * z.natAbs) := Nt.of (by omega)
  refine Ev.bind hm (Ev.bind (r2made_ev n1 (by omega) ?_) Ev.pure)
  have h1 := ha.zv
  have h2 := hb.zv
  rw [Int.natCast_mul]
  generalize (y.natAbs : Int) = u at *
  generalize (z.natAbs : Int) = v at *
  cases h3 : a.1 <;> cases h4 : b.1 <;> simp only [h3, h4, if_true, Bool.false_eq_true, if_false] at h1 h2 ⊢ <;> rw [h1, h2] <;> simp [Int.neg_mul, Int.mul_neg]

theorem Zt.radd {M : Nat} {a b : Bool × List Int} {y z : Int} (ha : Zt M a y) (hb : Zt M b z) (hM : M ≤ 8796093022207) : Ev (fun k => ref02_Add.f k a b) (int (y + z)) := by
  unfold ref02_Add.f ref02_Add.e
  have la := ha.nt.L
  have lb := hb.nt.L
  have h1 := ha.zv
  have h2 := hb.zv
  by_cases hs : a.1 = b.1
  · have hL := L_add y.natAbs z.natAbs
    have n1 : Nt (M + 1) (FK.lim (y.natAbs + z.natAbs)) (y.natAbs + z.natAbs) := Nt.of (by omega)
    refine Ev.tru (by simp [hs]) (Ev.bind (ha.nt.radd hb.nt (by omega)) (Ev.bind (r2made_ev n1 (by omega) ?_) Ev.pure))
    rw [← hs] at h2
    cases h3 : a.1 <;> rw [h3] at h1 h2 <;> simp at h1 h2 ⊢ <;> omega
  · refine Ev.fls (by simpa using hs) (Ev.bind (ha.nt.rcmp hb.nt (by omega)) ?_)
    by_cases hge : z.natAbs ≤ y.natAbs
    · refine Ev.tru (dec_t ?_) ?_
      · unfold sgn
        by_cases h1 : ((y.natAbs : Nat) : Int) = (z.natAbs : Nat)
        · rw [if_neg (by omega), if_pos h1]; omega
        · rw [if_neg (by omega), if_neg h1]; omega
      refine Ev.bind (ha.nt.rsub hb.nt (by omega) hge) ?_
      have n1 : Nt M (FK.lim (y.natAbs - z.natAbs)) (y.natAbs - z.natAbs) := Nt.of (Nat.le_trans (L_sub _ _) la)
      refine Ev.bind (r2made_ev n1 (by omega) ?_) Ev.pure
      cases h3 : a.1 <;> cases h4 : b.1 <;> rw [h3] at h1 hs <;> rw [h4] at h2 hs <;> simp at h1 h2 hs ⊢ <;> omega
    · refine Ev.fls (dec_f ?_) ?_
      · rw [sgn_lt (by omega)]; omega
      refine Ev.bind (hb.nt.rsub ha.nt (by omega) (by omega)) ?_
      have n1 : Nt M (FK.lim (z.natAbs - y.natAbs)) (z.natAbs - y.natAbs) := Nt.of (Nat.le_trans (L_sub _ _) lb)
      refine Ev.bind (r2made_ev n1 (by omega) ?_) Ev.pure
      cases h3 : a.1 <;> cases h4 : b.1 <;> rw [h3] at h1 hs <;> rw [h4] at h2 hs <;> simp at h1 h2 hs ⊢ <;> omega

theorem Zt.rsub {M : Nat} {a b : Bool × List Int} {y z : Int} (ha : Zt M a y) (hb : Zt M b z) (hM : M ≤ 8796093022207) : Ev (fun k => ref02_Sub.f k a b) (int (y - z)) := by
  unfold ref02_Sub.f ref02_Sub.e
  have h1 : Zt M (int (-z)) (-z) := Zt.of (by rw [LZ_neg]; exact hb.LZ)
  have := ha.radd h1 hM
  rw [← Int.sub_eq_add_neg] at this
  exact Ev.bind (hb.rneg (by omega)) (Ev.bind this Ev.pure)

/-! ### Rational numbers -/
theorem Rt.rnorm {M : Nat} {r : RR} {q : Rat} (h : Rt M r q) (hM : M ≤ 17592186044415) : Ev (fun k => ref03_Norm.f k r) (rat q) := by
  have p9 : ∀ x, Ev (fun k => ref03_Norm.p9 k x) (rat 0) := by
    intro x
    refine Ev.turn (fun k => ref03_Norm.p9_succ k _) ?_
    unfold ref03_Norm.e9
    rw [rat_zero]
    exact Ev.pure
  unfold ref03_Norm.f ref03_Norm.e
  refine Ev.bind (h.zt.rnorm (by omega)) (Ev.bind (h.nt.rNorm (by omega)) ?_)
  have hv := h.val
  unfold Qv at hv
  have lz := h.zt.LZ
  have ld := h.nt.L
  generalize Zv r.1 = z at *
  generalize (V r.2).toNat = d at *
  by_cases hd : d = 0
  · subst hd
    rw [Rat.mkRat_zero] at hv
    rw [← hv, lim_zero]
    exact Ev.tru (by simp) (p9 _)
  have hdp := L_pos hd
  refine Ev.fls (dec_f (by unfold FK.L at hdp; omega)) ?_
  by_cases hz : z = 0
  · subst hz
    rw [Rat.zero_mkRat] at hv
    rw [← hv, int_zero]
    exact Ev.tru (by simp) (p9 _)
  have hzp := L_pos (n := z.natAbs) (by omega)
  refine Ev.fls (dec_f (by unfold FK.L at hzp; unfold int; simp only []; omega)) ?_
  have nz : Nt M (FK.lim z.natAbs) z.natAbs := Nt.of lz
  have nd : Nt M (FK.lim d) d := Nt.of ld
  have hg0 : Nat.gcd z.natAbs d ≠ 0 := fun h => hd (Nat.eq_zero_of_gcd_eq_zero_right h)
  have hgL : L (Nat.gcd z.natAbs d) ≤ M := Nat.le_trans (L_mono (Nat.gcd_le_right _ (by omega))) ld
  have hg := nz.rgcd nd hM
  rw [← hv, rat_mkRat z hd]
  have hdv := Nat.gcd_dvd_left z.natAbs d
  generalize Nat.gcd z.natAbs d = g at *
  have ng : Nt M (lim g) g := Nt.of hgL
  refine Ev.bind hg (Ev.bind (nz.rdiv ng hM hg0) (Ev.bind (nd.rdiv ng hM hg0) ?_))
  obtain ⟨c, hc⟩ := hdv
  have hq : z.natAbs / g = c := by rw [hc, Nat.mul_div_cancel_left _ (by omega)]
  have hc0 : c ≠ 0 := by intro h; rw [h] at hc; omega
  have e : int (z / (g : Nat)) = (decide (z < 0), lim (z.natAbs / g)) := by
    unfold int
    have hgp : (0 : Int) < g := by omega
    by_cases hneg : z < 0
    · have hzc : z = (g : Int) * (-(c : Int)) := by
        have : (z.natAbs : Int) = ((g * c : Nat) : Int) := by rw [hc]
        rw [Int.natCast_mul] at this
        rw [Int.mul_neg]; omega
      rw [hq, hzc, Int.mul_ediv_cancel_left _ (by omega)]
      rw [Int.natAbs_neg, Int.natAbs_natCast, dec_t (by omega), dec_t (by rw [← hzc]; exact hneg)]
    · have hzc : z = (g : Int) * (c : Int) := by
        have : (z.natAbs : Int) = ((g * c : Nat) : Int) := by rw [hc]
        rw [Int.natCast_mul] at this
        omega
      rw [hq, hzc, Int.mul_ediv_cancel_left _ (by omega)]
      rw [Int.natAbs_natCast, dec_f (by omega), dec_f (by rw [← hzc]; exact hneg)]
  rw [e]
  exact Ev.pure

theorem Rt.mk2 {M : Nat} {a : Bool × List Int} {b : List Int} {z : Int} {d : Nat} (ha : Zt M a z) (hb : Nt M b d) : Rt M (a, b) (mkRat z d) := ⟨ha.lim, hb.lim, ha.len, hb.len, by
  unfold Qv
  rw [ha.val, hb.val, Int.toNat_natCast]⟩

theorem int_mk {b : Bool} {n : Nat} {z : Int} (_hn : n = z.natAbs) (hb : z = if b then -(n : Int) else n) (M : Nat) (hM : L n ≤ M) : Zt M (b, lim n) z := by
  refine ⟨Lim_lim _, ?_, hM⟩
  unfold Zv
  simp only [V_lim]
  rw [hb]

theorem Zt.rof_ev {M : Nat} {a b : Bool × List Int} {y z : Int} (ha : Zt M a y) (hb : Zt M b z) (hM : M ≤ 8796093022207) (hz : z ≠ 0) : Ev (fun k => ref03_Of.f k a b) (rat (Rat.divInt y z), (0 : Int)) := by
  unfold ref03_Of.f ref03_Of.e
  have la := ha.LZ
  have lb := hb.LZ
  have hzp := L_pos (n := z.natAbs) (by omega)
  refine Ev.bind (ha.rnorm (by omega)) (Ev.bind (hb.rnorm (by omega)) ?_)
  refine Ev.fls (dec_f (by unfold FK.L at hzp; unfold int; simp only []; omega)) ?_
  have hc := divInt_cases y z
  have hy : Zt M (!((int y).1 == (int z).1), (int y).2) (if z < 0 then -y else y) := by
    refine int_mk (by split <;> omega) ?_ M la
    unfold int
    by_cases h1 : y < 0 <;> by_cases h2 : z < 0 <;> simp [h1, h2] <;> omega
  have hn : Nt M (int z).2 z.natAbs := Nt.of lb
  have hr := Rt.mk2 hy hn
  have e : mkRat (if z < 0 then -y else y) z.natAbs = Rat.divInt y z := by
    by_cases h : z < 0
    · rw [if_pos h, hc.1 h]
    · rw [if_neg h, hc.2 (by omega)]
  rw [e] at hr
  exact Ev.bind (hr.rnorm (by omega)) Ev.pure

theorem Zt.rint {M : Nat} {a : Bool × List Int} {z : Int} (h : Zt M a z) (h1 : 1 ≤ M) (hM : M ≤ 17592186044415) : Ev (fun k => ref03_Int.f k a) (rat (z : Rat)) := by
  unfold ref03_Int.f ref03_Int.e
  have one : Nt M [1] 1 := ⟨Lim.mk (by simp [B]) Lim.nil, by simp [V], by simpa using h1⟩
  have := Rt.mk2 h one
  rw [show mkRat z 1 = (z : Rat) from Rat.mkRat_self (z : Rat)] at this
  exact Ev.bind (this.rnorm hM) Ev.pure

theorem Rt.rinv {M : Nat} {r : RR} {q : Rat} (h : Rt M r q) (h1 : 1 ≤ M) (hM : M ≤ 4398046511103) (hq : q ≠ 0) : Ev (fun k => ref03_Inv.f k r) (rat q⁻¹, (0 : Int)) := by
  unfold ref03_Inv.f ref03_Inv.e ref03_positive.f ref03_positive.e
  have hL := h.LQ h1
  refine Ev.bind (h.rnorm (by omega)) (Ev.bind Ev.pure ?_)
  rw [Rat.inv_def]
  have hn : q.num ≠ 0 := fun h => hq (Rat.num_eq_zero.1 h)
  exact Ev.bind (Zt.rof_ev (Zt.pos (Rt.den' hL)) (Rt.num' hL) (by omega) hn) Ev.pure
theorem Rt.rsign {M : Nat} {r : RR} {p : Rat} (hr : Rt M r p) (h1 : 1 ≤ M) (hM : M ≤ 1099511627775) : Ev (fun k => ref03_Sign.f k r) p.num.sign := by
  unfold ref03_Sign.f ref03_Sign.e
  exact Ev.bind (hr.rnorm (by omega)) (Ev.bind ((Rt.num' (hr.LQ h1)).rsign (by omega)) Ev.pure)

theorem Rt.rneg {M : Nat} {r : RR} {p : Rat} (hr : Rt M r p) (h1 : 1 ≤ M) (hM : M ≤ 1099511627775) : Ev (fun k => ref03_Neg.f k r) (rat (-p)) := by
  unfold ref03_Neg.f ref03_Neg.e
  have lr := hr.LQ h1
  have hz : Zt (2 * M) (int (-p.num)) (-p.num) := Zt.of (by rw [LZ_neg]; exact Nat.le_trans (LQ_num p) lr)
  have h := Rt.mk2 hz (Rt.den' lr)
  rw [← Rat.neg_mkRat, Rat.mkRat_self] at h
  exact Ev.bind (hr.rnorm (by omega)) (Ev.bind ((Rt.num' lr).rneg (by omega)) (Ev.bind (h.rnorm (by omega)) Ev.pure))

theorem Rt.rabs {M : Nat} {r : RR} {p : Rat} (hr : Rt M r p) (h1 : 1 ≤ M) (hM : M ≤ 1099511627775) : Ev (fun k => ref03_Abs.f k r) (rat p.abs) := by
  unfold ref03_Abs.f ref03_Abs.e
  refine Ev.bind (hr.rsign h1 hM) ?_
  by_cases h : p < 0
  · refine Ev.tru (dec_t ((num_sign_neg p).2 h)) ?_
    rw [Rat.abs_of_nonpos (Rat.le_of_lt h)]
    exact Ev.bind (hr.rneg h1 hM) Ev.pure
  · refine Ev.fls (dec_f (by rw [num_sign_neg]; exact h)) ?_
    rw [Rat.abs_of_nonneg (Rat.not_lt.1 h)]
    exact Ev.bind (hr.rnorm (by omega)) Ev.pure

theorem Rt.radd {M : Nat} {r s : RR} {p q : Rat} (hr : Rt M r p) (hs : Rt M s q) (h1 : 1 ≤ M) (hM : M ≤ 1099511627775) : Ev (fun k => ref03_Add.f k r s) (rat (p + q)) := by
  unfold ref03_Add.f ref03_Add.e ref03_positive.f ref03_positive.e
  have lr := hr.LQ h1
  have ls := hs.LQ h1
  refine Ev.bind (hr.rnorm (by omega)) (Ev.bind (hs.rnorm (by omega)) ?_)
  refine Ev.bind Ev.pure (Ev.bind ((Rt.num' lr).rmul (Zt.pos (Rt.den' ls)) (by omega)) (Ev.bind Ev.pure (Ev.bind ((Rt.num' ls).rmul (Zt.pos (Rt.den' lr)) (by omega)) ?_)))
  have a1 := LZ_mul p.num q.den
  have a2 := LZ_mul q.num p.den
  have a7 := LZ_add (p.num * q.den) (q.num * p.den)
  have a8 := L_mul p.den q.den
  have a3 := LQ_num p; have a4 := LQ_num q; have a5 := LQ_den p; have a6 := LQ_den q
  rw [LZ_nat] at a1 a2
  have hz : Zt (4 * M) (int (p.num * q.den)) (p.num * q.den) := Zt.of (by omega)
  have hy : Zt (4 * M) (int (q.num * p.den)) (q.num * p.den) := Zt.of (by omega)
  have hn : Nt (5 * M) (lim (p.den * q.den)) (p.den * q.den) := Nt.of (by omega)
  have hw : Zt (5 * M) (int (p.num * q.den + q.num * p.den)) (p.num * q.den + q.num * p.den) := Zt.of (by omega)
  rw [Rat.add_def']
  exact Ev.bind (hz.radd hy (by omega)) (Ev.bind ((Rt.den' lr).rmul (Rt.den' ls) (by omega)) (Ev.bind ((Rt.mk2 hw hn).rnorm (by omega)) Ev.pure))

theorem Rt.rsub {M : Nat} {r s : RR} {p q : Rat} (hr : Rt M r p) (hs : Rt M s q) (h1 : 1 ≤ M) (hM : M ≤ 274877906943) : Ev (fun k => ref03_Sub.f k r s) (rat (p - q)) := by
  unfold ref03_Sub.f ref03_Sub.e
  have hn : Rt (2 * M) (rat (-q)) (-q) := Rt.of (by rw [LQ_neg]; exact hs.LQ h1)
  rw [Rat.sub_eq_add_neg]
  exact Ev.bind (hs.rneg h1 (by omega)) (Ev.bind ((hr.mono (by omega)).radd hn (by omega) (by omega)) Ev.pure)

theorem qs_sub (p q : Rat) : (p - q).num.sign = qs p q := by
  rcases qs_cases p q with h | h | h
  · have h1 := qs_neg.1 (by omega : qs p q < 0)
    have h2 : (p - q).num.sign < 0 := (num_sign_neg _).2 (by
      rw [Rat.sub_eq_add_neg]
      have := Rat.add_lt_add_right (c := -q) |>.2 h1
      rw [Rat.add_neg_cancel] at this
      exact this)
    have := sign_cases (p - q).num
    omega
  · rw [h, qs_zero.1 h, Rat.sub_self]; rfl
  · have h1 : q < p := by
      rcases Rat.le_iff_lt_or_eq.1 (Rat.not_lt.1 (fun h2 => by rw [qs_lt h2] at h; omega) : q ≤ p) with h3 | h3
      · exact h3
      · rw [qs_eq h3.symm] at h; omega
    have h2 : 0 < p - q := (Rat.lt_iff_sub_pos q p).1 h1
    have h3 : 0 < (p - q).num := by
      have h4 := Rat.num_nonneg.2 (Rat.le_of_lt h2)
      have h5 : (p - q).num ≠ 0 := fun h6 => by
        rw [Rat.num_eq_zero.1 h6] at h2
        exact Rat.lt_irrefl h2
      omega
    rw [Int.sign_eq_one_of_pos h3, h]

theorem Rt.rcmp {M : Nat} {r s : RR} {p q : Rat} (hr : Rt M r p) (hs : Rt M s q) (h1 : 1 ≤ M) (hM : M ≤ 109951162777) : Ev (fun k => ref03_Cmp.f k r s) (qs p q) := by
  unfold ref03_Cmp.f ref03_Cmp.e
  have lp := hr.LQ h1
  have lq := hs.LQ h1
  have hL := LQ_sub p q
  have hd : Rt (9 * M) (rat (p - q)) (p - q) := Rt.of (by omega)
  rw [← qs_sub]
  exact Ev.bind (hr.rsub hs h1 (by omega)) (Ev.bind (hd.rsign (by omega) (by omega)) Ev.pure)

end Go.FK
