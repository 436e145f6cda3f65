import Derived.Test.YtllpdchpjhgkgaaDoorM1

/- The plain law: the quotient and what is left; the greatest common divisor. -/
namespace Go.FK

theorem nthD_zeros (n j : Nat) : nthD 0 (List.replicate n (0 : Int)) j = 0 := by
  rw [nthD_eq, List.getD_eq_getElem?_getD]
  by_cases h : j < n <;> simp [h]

theorem bits_or32_high {x y : Int} {s : Nat} (hs : s ≤ 32) (hx : 0 ≤ x ∧ x < 2 ^ (32 - s)) (hy : 0 ≤ y ∧ y < 2 ^ s) : bitsI .or .u32 x (y * 2 ^ (32 - s)) = x + y * 2 ^ (32 - s) := by
  have hp : (2 : Int) ^ s * 2 ^ (32 - s) = B := by rw [← Int.pow_add, show s + (32 - s) = 32 by omega]; rfl
  have h1 : (y + 1) * 2 ^ (32 - s) ≤ 2 ^ s * 2 ^ (32 - s) := Int.mul_le_mul_of_nonneg_right hy.2 (Int.le_of_lt (Int.pow_pos (by omega)))
  have h0 : (0 : Int) < 2 ^ (32 - s) := Int.pow_pos (by omega)
  rw [hp, Int.add_mul] at h1
  have h2 : 0 ≤ y * 2 ^ (32 - s) := Int.mul_nonneg hy.1 (Int.le_of_lt h0)
  have h3 : y * 2 ^ (32 - s) % B = y * 2 ^ (32 - s) := Int.emod_eq_of_lt h2 (by omega)
  have := or_low (u := 32 - s) (x := x) (y := y) (by omega) hx hy.1
  rw [h3] at this
  exact this

theorem long_p4 (u q : List Int) (up n : Nat) (hup : up < 32) (hu : Lim u) (hn : n + 1 ≤ u.length) (hl : u.length ≤ 17592186044417) (hz : nthD 0 u n = 0) (hd : nthD 0 u 0 % 2 ^ up = 0) (R : List Int × List Int)
    (hK : ∀ r : List Int, r.length = n → Lim r → V r * 2 ^ up = V (u.take n) → Ev (fun k => Option.bind (nat_own.f k q) fun r5 => Option.bind (nat_own.f k r) fun r6 => some (r5, r6)) R) :
    ∀ (m i : Nat) (r : List Int), m + i = n → r.length = n → Lim r → V (r.take i) * 2 ^ up = V (u.take i) + B ^ i * (nthD 0 u i % 2 ^ up) → Ev (fun k => nat_long.p4 k u q r (up : Int) (n : Int) (i : Int)) R := by
  intro m
  induction m with
  | zero =>
    intro i r hi hr hlr hV
    have hi : i = n := by omega
    subst hi
    rw [List.take_of_length_le (by omega), hz] at hV
    refine Ev.turn (fun k => nat_long.p4_succ k _ _ _ _ _ _) ?_
    unfold nat_long.e4
    refine Ev.fls (by simp) ?_
    exact hK r hr hlr (by rw [hV]; simp)
  | succ m ih =>
    intro i r hi hr hlr hV
    have hx := hu.get' i
    have hy := hu.get' (i + 1)
    have e1 : IntKind.i64.wrap ((i : Int) + 1) = ((i + 1 : Nat) : Int) := by rw [wrap_i64 (by omega) (by omega)]; omega
    have e2 : IntKind.i64.wrap ((32 : Int) - (up : Int)) = ((32 - up : Nat) : Int) := by rw [wrap_i64 (by omega) (by omega)]; omega
    have hp : (2 : Int) ^ up * 2 ^ (32 - up) = B := by rw [← Int.pow_add, show up + (32 - up) = 32 by omega]; rfl
    have hp0 : (0 : Int) < 2 ^ up := Int.pow_pos (by omega)
    have hp1 : (0 : Int) < 2 ^ (32 - up) := Int.pow_pos (by omega)
    have hple : (2 : Int) ^ (32 - up) ≤ B := by
      have := Int.mul_le_mul_of_nonneg_right (show (1 : Int) ≤ 2 ^ up by omega) (Int.le_of_lt hp1)
      omega
    have e3 : Int.fdiv (nthD 0 u i) (2 ^ min up 32) = nthD 0 u i / 2 ^ up := by rw [Nat.min_eq_left (by omega), Int.fdiv_eq_ediv_of_nonneg _ (by omega)]
    have hy0 : 0 ≤ nthD 0 u (i + 1) * 2 ^ (32 - up) := Int.mul_nonneg hy.1 (by omega)
    have hyb : nthD 0 u (i + 1) * 2 ^ (32 - up) ≤ nthD 0 u (i + 1) * B := Int.mul_le_mul_of_nonneg_left hple hy.1
    have e4 : IntKind.u32.wrap (IntKind.u64.wrap (IntKind.u64.wrap (nthD 0 u (i + 1)) * 2 ^ min (32 - up) 64)) = (nthD 0 u (i + 1) % 2 ^ up) * 2 ^ (32 - up) := by
      have hy2 := hy.2
      simp only [B] at hy2 hyb
      rw [Nat.min_eq_left (by omega), wrap_u64_id hy.1 (by omega), wrap_u64_id hy0 (by omega), wrap_u32]
      show _ % B = _
      rw [← hp, Int.mul_comm (nthD 0 u (i + 1)), Int.mul_comm (2 ^ up), Int.mul_emod_mul_of_pos _ _ hp1, Int.mul_comm]
    have hq0 : 0 ≤ nthD 0 u i / 2 ^ up := Int.ediv_nonneg hx.1 (by omega)
    have hq1 : nthD 0 u i / 2 ^ up < 2 ^ (32 - up) := Int.ediv_lt_of_lt_mul hp0 (by rw [Int.mul_comm, hp]; exact hx.2)
    have hr0 := Int.emod_nonneg (nthD 0 u (i + 1)) (show (2 : Int) ^ up ≠ 0 by omega)
    have hr1 := Int.emod_lt_of_pos (nthD 0 u (i + 1)) hp0
    have e5 := bits_or32_high (s := up) (x := nthD 0 u i / 2 ^ up) (y := nthD 0 u (i + 1) % 2 ^ up) (by omega) ⟨hq0, hq1⟩ ⟨hr0, hr1⟩
    have hval : nthD 0 u i / 2 ^ up + nthD 0 u (i + 1) % 2 ^ up * 2 ^ (32 - up) < B := by
      have := Int.mul_le_mul_of_nonneg_right (show nthD 0 u (i + 1) % 2 ^ up + 1 ≤ 2 ^ up by omega) (Int.le_of_lt hp1)
      rw [hp, Int.add_mul] at this
      omega
    have hval0 : 0 ≤ nthD 0 u (i + 1) % 2 ^ up * 2 ^ (32 - up) := Int.mul_nonneg hr0 (by omega)
    refine Ev.turn (fun k => nat_long.p4_succ k _ _ _ _ _ _) ?_
    unfold nat_long.e4
    simp only [e1, e2, Int.toNat_natCast, e3, e4, e5]
    simp (disch := omega) only [dec_t, dec_f, cond_true, cond_false, Bool.and_true]
    refine ih (i + 1) _ (by omega) (by rw [length_setN]; exact hr) (hlr.set ⟨by omega, hval⟩) ?_
    rw [V_take_setN (by omega), V_take_succ', Int.pow_succ]
    have h6 := Int.emod_add_mul_ediv (nthD 0 u i) (2 ^ up)
    generalize nthD 0 u i / 2 ^ up = d at *
    generalize nthD 0 u i % 2 ^ up = s at *
    generalize nthD 0 u (i + 1) % 2 ^ up = t at *
    generalize B ^ i = P at *
    have h7 : (V (r.take i) + P * (d + t * 2 ^ (32 - up))) * 2 ^ up = V (r.take i) * 2 ^ up + P * (2 ^ up * d) + P * (t * (2 ^ up * 2 ^ (32 - up))) := by
      generalize (2 : Int) ^ up = X
      generalize (2 : Int) ^ (32 - up) = Y
      grind
    rw [h7, hp, hV, ← h6]
    generalize (2 : Int) ^ up * d = Y
    rw [Int.mul_add]
    have h8 : P * B * t = P * (t * B) := by rw [Int.mul_assoc, Int.mul_comm B]
    omega

/-- Rows with no noughts at the end, the divisor at least two limbs. -/
theorem long_ev {m d : Nat} (hd : 2 ≤ L d) (hm : L d ≤ L m) (hM : L m ≤ 17592186044415) : Ev (fun k => nat_long.f k (lim m) (lim d)) (lim (m / d), lim (m % d)) := by
  have hd0 : d ≠ 0 := by intro h; rw [h, L_zero] at hd; omega
  have ht := lim_top hd0
  generalize hn : L d = n at *
  have hln : (lim d).length = n := hn
  generalize hx : nthD 0 (lim d) (n - 1) = x at ht
  have hxB := ht.2.1
  simp only [B] at hxB
  obtain ⟨bl, hbl, hbl32, hlen⟩ := Len32_ev (x := x.toNat) (by omega)
  have hb1 := hbl.low (by omega)
  obtain ⟨up, hup⟩ : ∃ up, up = 32 - bl := ⟨_, rfl⟩
  have hup32 : up < 32 := by omega
  have ntd : Nt n (lim d) d := Nt.of (by omega)
  have ntm : Nt (L m) (lim m) m := Nt.of (Nat.le_refl _)
  obtain ⟨vv, hv1, hv2, hv3, hv4⟩ := ntd.moved (by omega) hup32
  obtain ⟨uu, hu1, hu2, hu3, hu4⟩ := ntm.moved (by omega) hup32
  rw [hln] at hv4
  have hum : uu.length = L m + 1 := hu4
  -- the divisor fits into its limbs still
  have hdB : (d : Int) < (x + 1) * B ^ (n - 1) := by
    have h1 := V_take_succ' (lim d) (n - 1)
    rw [show n - 1 + 1 = n by omega, List.take_of_length_le (by omega), V_lim, hx] at h1
    have h2 := V_bounds (Lim_lim d) (n - 1) (by omega)
    rw [Int.add_mul, Int.mul_comm x]
    omega
  have hxup : (x + 1) * 2 ^ up ≤ B := by
    have h1 : x + 1 ≤ 2 ^ bl := by
      have := hbl.lt
      have h2 : ((x.toNat : Nat) : Int) < ((2 ^ bl : Nat) : Int) := by exact_mod_cast this
      rw [Int.natCast_pow] at h2
      have : (2 : Int) ^ bl = ((2 : Nat) : Int) ^ bl := rfl
      omega
    have h2 : (x + 1) * 2 ^ up ≤ 2 ^ bl * 2 ^ up := Int.mul_le_mul_of_nonneg_right h1 (Int.le_of_lt (Int.pow_pos (by omega)))
    rw [← Int.pow_add, show bl + up = 32 by omega] at h2
    exact h2
  have hp0 : (0 : Int) < 2 ^ up := Int.pow_pos (by omega)
  have hvB : ((d * 2 ^ up : Nat) : Int) < B ^ n := by
    have h1 : (d : Int) * 2 ^ up < (x + 1) * B ^ (n - 1) * 2 ^ up := Int.mul_lt_mul_of_pos_right hdB hp0
    have h2 : (x + 1) * 2 ^ up * B ^ (n - 1) ≤ B * B ^ (n - 1) := Int.mul_le_mul_of_nonneg_right hxup (Int.le_of_lt (Bpow_pos _))
    have h3 : (x + 1) * B ^ (n - 1) * 2 ^ up = (x + 1) * 2 ^ up * B ^ (n - 1) := by rw [Int.mul_assoc, Int.mul_assoc, Int.mul_comm (B ^ (n - 1))]
    have h4 : B ^ n = B * B ^ (n - 1) := by
      have this : B ^ (n - 1 + 1) = B ^ (n - 1) * B := Int.pow_succ _ _
      rw [show n - 1 + 1 = n by omega] at this
      rw [this, Int.mul_comm]
    rw [Int.natCast_mul, Int.natCast_pow]
    show (d : Int) * 2 ^ up < _
    omega
  have hv5 : V (vv.take n) = ((d * 2 ^ up : Nat) : Int) := by
    have h1 := V_split vv n (by omega)
    have h2 := drop_zero_of_lt hv2 (m := n) (by omega) (by rw [hv3]; exact hvB)
    rw [h2, hv3] at h1
    omega
  have hlv : (vv.take n).length = n := by simp; omega
  have hLv := hv2.take n
  generalize hvn : vv.take n = v at *
  generalize hDD : d * 2 ^ up = D at *
  have hD0 : 0 < D := by rw [← hDD]; exact Nat.mul_pos (by omega) (Nat.pow_pos (by omega))
  -- the top limb of the divisor
  have htop : 0 < nthD 0 v (n - 1) := by
    have h1 := V_take_succ' v (n - 1)
    rw [show n - 1 + 1 = n by omega, List.take_of_length_le (by omega), hv5] at h1
    have h2 := V_bounds hLv (n - 1) (by omega)
    have h3 : B ^ (n - 1) ≤ D := by
      have h4 : (d : Int) ≤ D := by
        have : d * 1 ≤ d * 2 ^ up := Nat.mul_le_mul_left _ (Nat.pow_pos (by omega))
        omega
      omega
    have h4 := hLv.get' (n - 1)
    rcases (show nthD 0 v (n - 1) = 0 ∨ 0 < nthD 0 v (n - 1) by omega) with h5 | h5
    · rw [h5] at h1; omega
    · exact h5
  have hsum : ((m * 2 ^ up : Nat) : Int) < B ^ (L m - n + 1) * D := by
    have h1 : (m : Int) < B ^ L m := by
      have := V_lt (Lim_lim m)
      rw [V_lim] at this
      exact this
    have h2 : B ^ L m ≤ B ^ (L m - n + 1) * d := by
      have h3 : B ^ (L m - n + 1) * B ^ (n - 1) ≤ B ^ (L m - n + 1) * d := Int.mul_le_mul_of_nonneg_left ht.2.2.1 (Int.le_of_lt (Bpow_pos _))
      rw [← Int.pow_add, show L m - n + 1 + (n - 1) = L m by omega] at h3
      exact h3
    have h3 : (m : Int) * 2 ^ up < B ^ (L m - n + 1) * d * 2 ^ up := Int.mul_lt_mul_of_pos_right (by omega) hp0
    rw [← hDD, Int.natCast_mul, Int.natCast_mul, Int.natCast_pow, ← Int.mul_assoc]
    exact h3
  -- the loop
  have loop : ∀ (j : Nat) (u q : List Int), j ≤ L m - n + 1 → Lim u → u.length = L m + 1 → Lim q → q.length = L m + 1 - n → (∀ i, i < j → nthD 0 q i = 0) → V u < B ^ j * D → V u + V q * D = ((m * 2 ^ up : Nat) : Int) →
      Ev (fun k => nat_long.p0 k u q (up : Int) v (n : Int) ((j : Int) - 1)) (lim (m / d), lim (m % d)) := by
    intro j
    induction j with
    | zero =>
      intro u q _ hu hul hq hql hz hlt hs
      simp only [Int.pow_zero, Int.one_mul] at hlt
      have hu0 := V_nonneg hu
      have hq0 := V_nonneg hq
      obtain ⟨U, hU⟩ : ∃ U : Nat, V u = U := ⟨(V u).toNat, by omega⟩
      obtain ⟨Q, hQ⟩ : ∃ Q : Nat, V q = Q := ⟨(V q).toNat, by omega⟩
      rw [hU] at hlt
      have hs2 : U + Q * D = m * 2 ^ up := by rw [hU, hQ] at hs; exact_mod_cast hs
      have hlt2 : U < D := by exact_mod_cast hlt
      have hQd : m / d = Q := by
        have h1 : (m * 2 ^ up) / D = Q := by
          rw [← hs2, Nat.add_mul_div_right _ _ hD0, Nat.div_eq_of_lt hlt2]; simp
        rw [← hDD, Nat.mul_div_mul_right _ _ (Nat.pow_pos (by omega))] at h1
        exact h1
      have hUd : U = (m % d) * 2 ^ up := by
        have h1 : (m * 2 ^ up) % D = U := by
          rw [← hs2, Nat.add_mul_mod_self_right, Nat.mod_eq_of_lt hlt2]
        rw [← hDD, Nat.mul_mod_mul_right] at h1
        exact h1.symm
      have hzn : V (u.drop n) = 0 := drop_zero_of_lt hu (by omega) (by rw [hU]; omega)
      refine Ev.turn (fun k => nat_long.p0_succ k _ _ _ _ _ _) ?_
      unfold nat_long.e0
      refine Ev.fls (by simp) (Ev.tru (by simp; omega) ?_)
      have hun : nthD 0 u n = 0 := by
        have h1 := V_take_succ' u n
        have h2 := V_split u n (by omega)
        have h3 := V_split u (n + 1) (by omega)
        have h4 := V_nonneg (hu.drop (n + 1))
        have h5 := hu.get' n
        rw [hzn] at h2
        rw [h1] at h3
        have h6 : 0 ≤ B ^ (n + 1) * V (u.drop (n + 1)) := Int.mul_nonneg (Int.le_of_lt (Bpow_pos _)) h4
        rcases (show nthD 0 u n = 0 ∨ 1 ≤ nthD 0 u n by omega) with h7 | h7
        · exact h7
        · have h8 : B ^ n * 1 ≤ B ^ n * nthD 0 u n := Int.mul_le_mul_of_nonneg_left h7 (Int.le_of_lt (Bpow_pos _))
          have := Bpow_pos n
          omega
      have hu00 : nthD 0 u 0 % 2 ^ up = 0 := by
        have h1 : V u = nthD 0 u 0 + B * V (u.drop 1) := by
          cases u with
          | nil => simp at hul
          | cons y ys => simp [V, nthD]
        have hp : B = 2 ^ up * 2 ^ (32 - up) := by rw [← Int.pow_add, show up + (32 - up) = 32 by omega]; rfl
        have h2 : nthD 0 u 0 = 2 ^ up * ((m % d : Nat) - 2 ^ (32 - up) * V (u.drop 1)) := by
          have hUc : (U : Int) = ((m % d : Nat) : Int) * 2 ^ up := by rw [hUd, Int.natCast_mul, Int.natCast_pow]; rfl
          rw [hU, hUc, hp] at h1
          generalize V (u.drop 1) = Z at *
          generalize ((m % d : Nat) : Int) = A at *
          generalize nthD 0 u 0 = w at *
          generalize (2 : Int) ^ up = X at *
          generalize (2 : Int) ^ (32 - up) = Y at *
          grind
        rw [h2]
        exact Int.mul_emod_right _ _
      have := long_p4 u q up n hup32 hu (by omega) (by omega) hun hu00 (lim (m / d), lim (m % d)) ?_ n 0 (List.replicate n 0) (by omega) (by simp) (Lim_replicate_zero _) (by simp [V, hu00])
      · simpa using this
      · intro r hr hlr hVr
        have h1 : V (u.take n) = U := by
          have h2 := V_split u n (by omega)
          rw [hzn, hU] at h2
          omega
        rw [h1, hUd, Int.natCast_mul, Int.natCast_pow] at hVr
        have h2 : V r = ((m % d : Nat) : Int) := Int.eq_of_mul_eq_mul_right (show (2 : Int) ^ up ≠ 0 by omega) hVr
        have n1 : Nt (L m + 1) q (m / d) := ⟨hq, by rw [hQ, hQd], by omega⟩
        have n2 : Nt n r (m % d) := ⟨hlr, h2, by omega⟩
        exact Ev.bind (n1.own (by omega)) (Ev.bind (n2.own (by omega)) Ev.pure)
    | succ j ih =>
      intro u q hj hu hul hq hql hz hlt hs
      have hu0 := V_nonneg hu
      obtain ⟨U, hU⟩ : ∃ U : Nat, V u = U := ⟨(V u).toNat, by omega⟩
      have hY : 0 < B ^ j * (D : Int) := Int.mul_pos (Bpow_pos j) (by omega)
      generalize hqd : V u / (B ^ j * (D : Int)) = qd
      have hqd0 : 0 ≤ qd := by rw [← hqd]; exact Int.ediv_nonneg hu0 (by omega)
      have hqm := Int.emod_add_mul_ediv (V u) (B ^ j * (D : Int))
      have hm0 := Int.emod_nonneg (V u) (show B ^ j * (D : Int) ≠ 0 by omega)
      have hm1 := Int.emod_lt_of_pos (V u) hY
      rw [hqd] at hqm
      have hcm : qd * (B ^ j * (D : Int)) = B ^ j * (D : Int) * qd := Int.mul_comm _ _
      have dig : Dig u v j n qd := ⟨hu, hLv, hlv, hd, by omega, by omega, htop, by rw [hv5]; exact hlt, hqd0, by rw [hv5]; omega, by rw [hv5, Int.add_mul]; omega⟩
      have hqB := dig.q_lt
      obtain ⟨u', h1, h2, h3, h4⟩ := dig.ev
      rw [hv5] at h4
      refine Ev.turn (fun k => nat_long.p0_succ k _ _ _ _ _ _) ?_
      unfold nat_long.e0
      have e0 : ((j + 1 : Nat) : Int) - 1 = (j : Int) := by omega
      have e1 : IntKind.i64.wrap ((j : Int) + (n : Int)) = ((j + n : Nat) : Int) := by rw [wrap_i64 (by omega) (by omega)]; omega
      have e2 : IntKind.i64.wrap (((j + n : Nat) : Int) + 1) = ((j + n + 1 : Nat) : Int) := by rw [wrap_i64 (by omega) (by omega)]; omega
      have e3 : (((j + n + 1 : Nat) : Int) - (j : Int)).toNat = n + 1 := by omega
      have e4 : IntKind.i64.wrap ((j : Int) - 1) = (j : Int) - 1 := wrap_i64 (by omega) (by omega)
      simp only [e0, e1, e2, e3, e4, Int.toNat_natCast]
      refine Ev.tru (by simp) (Ev.tru (by simp; omega) (Ev.tru (by simp; omega) (Ev.bind h1 (Ev.tru (by simp; omega) ?_))))
      refine ih u' (setN qd q j) (by omega) h2 (by omega) (hq.set ⟨hqd0, hqB⟩) (by rw [length_setN]; exact hql) (fun i hi => by rw [nthD_setN, if_neg (by omega)]; exact hz i (by omega)) ?_ ?_
      · have : qd * (B ^ j * (D : Int)) = B ^ j * (D : Int) * qd := Int.mul_comm _ _
        omega
      · rw [V_setN _ _ _ (by omega), hz j (by omega), h4, ← hs]
        grind
  unfold nat_long.f nat_long.e
  have e1 : IntKind.i64.wrap ((n : Int) - 1) = ((n - 1 : Nat) : Int) := by rw [wrap_i64 (by omega) (by omega)]; omega
  have hx2 : x = (x.toNat : Int) := by omega
  simp only [hln, e1, Int.toNat_natCast, hx]
  refine Ev.tru (by simp; omega) ?_
  have hlz : Ev (fun k => bits_LeadingZeros32.f k x) (up : Int) := by
    unfold bits_LeadingZeros32.f bits_LeadingZeros32.e
    rw [hx2]
    refine Ev.bind hlen ?_
    rw [wrap_i64 (by omega) (by omega), show (32 : Int) - (bl : Int) = (up : Int) by omega]
    exact Ev.pure
  refine Ev.bind hlz (Ev.bind hv1 ?_)
  refine Ev.tru (by simp; omega) (Ev.bind hu1 ?_)
  have e5 : (List.drop (Int.toNat 0) (List.take n vv)) = v := by rw [hvn]; rfl
  simp only [e5, hlv]
  have e6 : IntKind.i64.wrap ((uu.length : Int) - (n : Int)) = ((L m + 1 - n : Nat) : Int) := by rw [wrap_i64 (by omega) (by omega)]; omega
  simp only [e6, Int.toNat_natCast]
  refine Ev.tru (by simp; omega) ?_
  have e7 : IntKind.i64.wrap (((L m + 1 - n : Nat) : Int) - 1) = ((L m - n + 1 : Nat) : Int) - 1 := by rw [wrap_i64 (by omega) (by omega)]; omega
  rw [e7]
  exact loop (L m - n + 1) uu _ (Nat.le_refl _) hu2 hum (Lim_replicate_zero _) (by simp) (fun i _ => nthD_zeros _ i) (by rw [hu3]; exact hsum) (by rw [V_replicate_zero, hu3]; simp)

end Go.FK


/- The plain law: Div, Gcd; whole numbers. -/
namespace Go.FK

theorem lim_single {x : Nat} (h0 : x ≠ 0) (h : x < 4294967296) : lim x = [(x : Int)] := by
  rw [lim_pos h0, Nat.mod_eq_of_lt h, Nat.div_eq_of_lt h, lim_zero]
theorem Nt.one {x : Int} (h : 0 ≤ x ∧ x < B) : Nt 1 [x] x.toNat := ⟨Lim.mk h Lim.nil, by simp [V]; omega, by simp⟩

theorem Nt.div {M m n : Nat} {a b : List Int} (ha : Nt M a m) (hb : Nt M b n) (hM : M ≤ 17592186044415) (hn : n ≠ 0) : Ev (fun k => nat_Div.f k a b) (FK.lim (m / n), FK.lim (m % n), (0 : Int)) := by
  have lm := ha.L
  have ln := hb.L
  have hn1 := L_pos hn
  unfold nat_Div.f nat_Div.e
  refine Ev.bind (ha.trim (by omega)) (Ev.bind (hb.trim (by omega)) ?_)
  have am : Nt M (FK.lim m) m := Nt.of lm
  have bn : Nt M (FK.lim n) n := Nt.of ln
  refine Ev.fls (dec_f (by unfold FK.L at hn1; omega)) (Ev.bind (am.cmp bn (by omega)) ?_)
  by_cases hlt : m < n
  · rw [sgn_lt (by omega)]
    refine Ev.tru (by simp) (Ev.bind (am.own (by omega)) ?_)
    rw [Nat.div_eq_of_lt hlt, Nat.mod_eq_of_lt hlt, lim_zero]
    exact Ev.pure
  · have hsg : ¬ sgn (m : Int) n < 0 := by
      unfold sgn
      by_cases h1 : (m : Int) = n
      · rw [if_neg (by omega), if_pos h1]; omega
      · rw [if_neg (by omega), if_neg h1]; omega
    refine Ev.fls (dec_f hsg) ?_
    by_cases h1 : FK.L n = 1
    · refine Ev.tru (dec_t (by unfold FK.L at h1; omega)) (Ev.tru (dec_t (by unfold FK.L at h1; omega)) ?_)
      have hnB : n < 4294967296 := by have := L_lt n; rw [h1] at this; omega
      have e : nthD 0 (FK.lim n) 0 = (n : Int) := by rw [lim_single hn hnB]; rfl
      rw [e]
      obtain ⟨q, hq1, hq2⟩ := am.short (b := n) (by omega) (by omega) (by simp only [B]; omega)
      have hmod := Nat.mod_lt m (show 0 < n by omega)
      refine Ev.bind hq1 (Ev.bind (hq2.own (by omega)) ?_)
      have o := Nt.one (x := ((m % n : Nat) : Int)) (by simp only [B]; omega)
      have := o.own (by omega)
      simp only [Int.toNat_natCast] at this
      exact Ev.bind this Ev.pure
    · refine Ev.fls (dec_f (by unfold FK.L at h1; omega)) ?_
      have hl : FK.L n ≤ FK.L m := L_mono (by omega)
      exact Ev.bind (long_ev (by omega) hl (by omega)) Ev.pure

theorem Gcd_p0 (M : Nat) (hM : M ≤ 17592186044415) : ∀ (n m : Nat), L m ≤ M → L n ≤ M → Ev (fun k => nat_Gcd.p0 k (lim m) (lim n)) (lim (Nat.gcd m n)) := by
  intro n
  induction n using Nat.strongRecOn with
  | _ n ih =>
    intro m hm hn
    refine Ev.turn (fun k => nat_Gcd.p0_succ k _ _) ?_
    unfold nat_Gcd.e0
    by_cases h : n = 0
    · subst h
      rw [lim_zero]
      refine Ev.fls (by simp) ?_
      rw [Nat.gcd_zero_right]
      exact Ev.pure
    · have := L_pos h
      refine Ev.tru (dec_t (by unfold FK.L at this; omega)) ?_
      refine Ev.bind (Nt.div (Nt.of hm) (Nt.of hn) (by omega) h) ?_
      have hlt := Nat.mod_lt m (show 0 < n by omega)
      have := ih (m % n) hlt n hn (Nat.le_trans (L_mono (Nat.le_of_lt hlt)) hn)
      rw [Nat.gcd_comm n (m % n), ← Nat.gcd_rec, Nat.gcd_comm] at this
      exact this

theorem Nt.gcd {M m n : Nat} {a b : List Int} (ha : Nt M a m) (hb : Nt M b n) (hM : M ≤ 17592186044415) : Ev (fun k => nat_Gcd.f k a b) (FK.lim (Nat.gcd m n)) := by
  unfold nat_Gcd.f nat_Gcd.e
  exact Ev.bind (ha.own (by omega)) (Ev.bind (hb.own (by omega)) (Gcd_p0 M hM n m ha.L hb.L))

theorem Nt.Norm {M m : Nat} {a : List Int} (ha : Nt M a m) (hM : M ≤ 17592186044415) : Ev (fun k => nat_Norm.f k a) (FK.lim m) := Ev.bind (ha.own (by omega)) Ev.pure

theorem nat_Of_ev {n : Int} (h : 0 ≤ n ∧ n < 18446744073709551616) : Ev (fun k => nat_Of.f k n) (lim n.toNat) := by
  unfold nat_Of.f nat_Of.e
  have e1 : IntKind.u32.wrap n = n % 4294967296 := wrap_u32 n
  have e2 : IntKind.u32.wrap (Int.fdiv n (2 ^ 32)) = n / 4294967296 := by
    rw [Int.fdiv_eq_ediv_of_nonneg _ (by omega), wrap_u32]; omega
  rw [e1, e2]
  have o : Nt 2 [n % 4294967296, n / 4294967296] n.toNat := ⟨Lim.mk (by simp only [B]; omega) (Lim.mk (by simp only [B]; omega) Lim.nil), by simp only [V, B]; omega, by simp⟩
  exact Ev.bind (o.own (by omega)) Ev.pure

/-! ### Whole numbers -/
theorem core_p9 (a : List Int) (n : Nat) (h : n ≤ a.length) : Ev (fun k => whole_core.p9 k a (n : Int)) (a.take n) := by
  refine Ev.turn (fun k => whole_core.p9_succ k a n) ?_
  unfold whole_core.e9
  refine Ev.tru (by simp; omega) ?_
  have : (List.take (Int.toNat (n : Int)) a).drop (Int.toNat 0) = a.take n := by simp
  rw [this]
  exact Ev.pure
theorem core_p0 (a : List Int) : ∀ (n : Nat), n ≤ a.length → n ≤ 9223372036854775807 → Ev (fun k => whole_core.p0 k a (n : Int)) (norm (a.take n)) := by
  intro n
  induction n with
  | zero =>
    intro h _
    refine Ev.turn (fun k => whole_core.p0_succ k a _) ?_
    unfold whole_core.e0
    refine Ev.fls (by simp) ?_
    simpa [norm] using core_p9 a 0 h
  | succ n ih =>
    intro h hb
    refine Ev.turn (fun k => whole_core.p0_succ k a _) ?_
    unfold whole_core.e0
    have e : IntKind.i64.wrap (((n + 1 : Nat) : Int) - 1) = (n : Int) := by rw [wrap_i64 (by omega) (by omega)]; omega
    simp only [e]
    refine Ev.tru (by simp) ?_
    refine Ev.tru (by simp; omega) ?_
    rw [take_succ_get (by omega)]
    by_cases h0 : nthD 0 a n = 0
    · refine Ev.tru (by simp [h0]) ?_
      rw [h0, norm_snoc_zero]
      exact ih (by omega) (by omega)
    · refine Ev.fls (by simp [h0]) ?_
      rw [norm_snoc_ne _ h0, ← take_succ_get (by omega)]
      exact core_p9 a (n + 1) h
theorem Nt.core {M n : Nat} {a : List Int} (h : Nt M a n) (hM : M ≤ 17592186044415) : Ev (fun k => whole_core.f k a) (FK.lim n) := by
  have := core_p0 a a.length (Nat.le_refl _) (by have := h.len; omega)
  rw [List.take_length, h.norm] at this
  exact this

theorem Zt.sign {M : Nat} {a : Bool × List Int} {z : Int} (h : Zt M a z) (hM : M ≤ 17592186044415) : Ev (fun k => whole_Sign.f k a) z.sign := by
  unfold whole_Sign.f whole_Sign.e
  refine Ev.bind (h.nt.core hM) ?_
  by_cases h0 : z = 0
  · subst h0
    simp only [Int.natAbs_zero, lim_zero]
    exact Ev.tru (by simp) Ev.pure
  · refine Ev.fls (dec_f (by have := L_pos (n := z.natAbs) (by omega); unfold FK.L at this; omega)) ?_
    have hv := h.val
    have hp := V_nonneg h.lim
    unfold Zv at hv
    by_cases hs : a.1 = true
    · refine Ev.tru hs ?_
      rw [if_pos hs] at hv
      rw [Int.sign_eq_neg_one_of_neg (by omega)]
      exact Ev.pure
    · rw [if_neg hs] at hv
      refine Ev.fls (by simpa using hs) ?_
      rw [Int.sign_eq_one_of_pos (by omega)]
      exact Ev.pure

theorem sign_cases (z : Int) : z.sign = -1 ∨ z.sign = 0 ∨ z.sign = 1 := by
  rcases Int.lt_trichotomy z 0 with h | h | h
  · exact Or.inl (Int.sign_eq_neg_one_of_neg h)
  · exact Or.inr (Or.inl (by rw [h]; rfl))
  · exact Or.inr (Or.inr (Int.sign_eq_one_of_pos h))

/-- The product of some signs. -/
def prodL : List Int → Int
  | [] => 1
  | x :: xs => x * prodL xs

theorem signed_p0 (n : Nat) (l : List Int) (hl : l.length ≤ 1000) (hs : ∀ x ∈ l, x = -1 ∨ x = 0 ∨ x = 1) (w : Bool × List Int) : ∀ (m i : Nat) (s : Int), m + i = l.length → (s = -1 ∨ s = 0 ∨ s = 1) →
    Ev (fun k => whole_signed.p0 k w (lim n) s l (l.length : Int) (i : Int)) (decide (s * prodL (l.drop i) < 0 ∧ n ≠ 0), lim n) := by
  intro m
  induction m with
  | zero =>
    intro i s hi h1
    have hi : i = l.length := by omega
    subst hi
    rw [List.drop_of_length_le (Nat.le_refl _)]
    simp only [prodL, Int.mul_one]
    refine Ev.turn (fun k => whole_signed.p0_succ k _ _ _ _ _ _) ?_
    unfold whole_signed.e0
    refine Ev.fls (by simp) ?_
    by_cases h2 : s < 0
    · refine Ev.tru (dec_t h2) ?_
      have : decide (((lim n).length : Int) > 0) = decide (s < 0 ∧ n ≠ 0) := by
        by_cases h3 : n = 0
        · subst h3; simp [lim_zero]
        · have := L_pos h3
          unfold L at this
          rw [dec_t (by omega), dec_t ⟨h2, h3⟩]
      rw [this]
      exact Ev.pure
    · refine Ev.fls (dec_f h2) ?_
      rw [dec_f (fun h => h2 h.1)]
      exact Ev.pure
  | succ m ih =>
    intro i s hi h1
    refine Ev.turn (fun k => whole_signed.p0_succ k _ _ _ _ _ _) ?_
    unfold whole_signed.e0
    have e1 : IntKind.i64.wrap ((i : Int) + 1) = ((i + 1 : Nat) : Int) := by rw [wrap_i64 (by omega) (by omega)]; omega
    have hd : l.drop i = nthD 0 l i :: l.drop (i + 1) := by
      rw [List.drop_eq_getElem_cons (by omega), nthD_eq, List.getD_eq_getElem?_getD]
      simp [show i < l.length by omega]
    have hx : nthD 0 l i = -1 ∨ nthD 0 l i = 0 ∨ nthD 0 l i = 1 := hs _ (List.mem_of_mem_drop (by rw [hd]; exact List.mem_cons_self))
    have hy : s * nthD 0 l i = -1 ∨ s * nthD 0 l i = 0 ∨ s * nthD 0 l i = 1 := by
      rcases h1 with rfl | rfl | rfl <;> rcases hx with h | h | h <;> rw [h] <;> decide
    have e2 : IntKind.i64.wrap (s * nthD 0 l i) = s * nthD 0 l i := wrap_i64 (by omega) (by omega)
    simp only [Int.toNat_natCast, e1, e2]
    simp (disch := omega) only [dec_t, cond_true, Bool.and_true]
    have := ih (i + 1) (s * nthD 0 l i) (by omega) hy
    simp only [hd, prodL, ← Int.mul_assoc]
    exact this

theorem Nt.signed {M n : Nat} {a : List Int} (h : Nt M a n) (hM : M ≤ 17592186044415) (l : List Int) (hl : l.length ≤ 1000) (hs : ∀ x ∈ l, x = -1 ∨ x = 0 ∨ x = 1) : Ev (fun k => whole_signed.f k a l) (decide (prodL l < 0 ∧ n ≠ 0), FK.lim n) := by
  unfold whole_signed.f whole_signed.e
  refine Ev.bind (h.Norm hM) ?_
  have := signed_p0 n l hl hs (false, []) l.length 0 1 (by omega) (by omega)
  simp only [List.drop_zero, Int.one_mul] at this
  exact this

/-- A size with a sign. -/
theorem Nt.signed1 {M n : Nat} {a : List Int} (h : Nt M a n) (hM : M ≤ 17592186044415) {s z : Int} (hs : s = -1 ∨ s = 0 ∨ s = 1) (hn : n = z.natAbs) (hz : z < 0 ↔ (s < 0 ∧ n ≠ 0)) : Ev (fun k => whole_signed.f k a [s]) (int z) := by
  have := h.signed hM [s] (by simp) (by simpa using hs)
  simp only [prodL, Int.mul_one] at this
  rw [← decide_eq_decide.2 hz, hn] at this
  exact this
theorem Nt.signed2 {M n : Nat} {a : List Int} (h : Nt M a n) (hM : M ≤ 17592186044415) {s t z : Int} (hs : s = -1 ∨ s = 0 ∨ s = 1) (ht : t = -1 ∨ t = 0 ∨ t = 1) (hn : n = z.natAbs) (hz : z < 0 ↔ (s * t < 0 ∧ n ≠ 0)) : Ev (fun k => whole_signed.f k a [s, t]) (int z) := by
  have := h.signed hM [s, t] (by simp) (by
    intro x hx
    simp only [List.mem_cons, List.not_mem_nil, or_false] at hx
    rcases hx with rfl | rfl
    · exact hs
    · exact ht)
  simp only [prodL, Int.mul_one] at this
  rw [← decide_eq_decide.2 hz, hn] at this
  exact this

theorem sign_neg_iff (z : Int) : z.sign < 0 ↔ z < 0 := by
  rcases Int.lt_trichotomy z 0 with h | h | h
  · rw [Int.sign_eq_neg_one_of_neg h]; omega
  · rw [h]; decide
  · rw [Int.sign_eq_one_of_pos h]; omega

theorem Zt.norm {M : Nat} {a : Bool × List Int} {z : Int} (h : Zt M a z) (hM : M ≤ 17592186044415) : Ev (fun k => whole_Norm.f k a) (int z) := by
  unfold whole_Norm.f whole_Norm.e
  exact Ev.bind (h.sign hM) (Ev.bind (h.nt.signed1 hM (sign_cases z) rfl (by rw [sign_neg_iff]; omega)) Ev.pure)

theorem Zt.neg {M : Nat} {a : Bool × List Int} {z : Int} (h : Zt M a z) (hM : M ≤ 17592186044415) : Ev (fun k => whole_Neg.f k a) (int (-z)) := by
  unfold whole_Neg.f whole_Neg.e
  refine Ev.bind (h.sign hM) (Ev.bind (h.nt.signed2 hM (by omega) (sign_cases z) (by omega) ?_) Ev.pure)
  have := sign_neg_iff (-z)
  rw [Int.sign_neg] at this
  have e : (-1 : Int) * z.sign = -z.sign := by omega
  rw [e, this]
  omega

theorem Zt.mul {M : Nat} {a b : Bool × List Int} {y z : Int} (ha : Zt M a y) (hb : Zt M b z) (hM : M ≤ 8796093022207) : Ev (fun k => whole_Mul.f k a b) (int (y * z)) := by
  unfold whole_Mul.f whole_Mul.e
  have hm := ha.nt.mul hb.nt (by omega)
  have hL := L_mul y.natAbs z.natAbs
  have la := ha.nt.L
  have lb := hb.nt.L
  have n1 : Nt (2 * M) (FK.lim (y.natAbs * z.natAbs)) (y.natAbs * z.natAbs) := Nt.of (by omega)
  refine Ev.bind hm (Ev.bind (ha.sign (by omega)) (Ev.bind (hb.sign (by omega)) (Ev.bind (n1.signed2 (by omega) (sign_cases y) (sign_cases z) (by rw [Int.natAbs_mul]) ?_) Ev.pure)))
  rw [← Int.sign_mul, sign_neg_iff, ← Int.natAbs_mul]
  omega

theorem or_signs {x y : Int} (hx : x = -1 ∨ x = 0 ∨ x = 1) (hy : y = -1 ∨ y = 0 ∨ y = 1) (h : 0 ≤ x * y) : bitsI .or .i64 (bitsI .or .i64 x y) 1 = if x < 0 ∨ y < 0 then -1 else 1 := by
  rcases hx with rfl | rfl | rfl <;> rcases hy with rfl | rfl | rfl <;> first | (exfalso; revert h; decide) | decide

theorem Zt.add {M : Nat} {a b : Bool × List Int} {y z : Int} (ha : Zt M a y) (hb : Zt M b z) (hM : M ≤ 8796093022207) : Ev (fun k => whole_Add.f k a b) (int (y + z)) := by
  unfold whole_Add.f whole_Add.e
  have la := ha.nt.L
  have lb := hb.nt.L
  have hsy := sign_cases y
  have hsz := sign_cases z
  have hny := sign_neg_iff y
  have hnz := sign_neg_iff z
  have hzy := Int.sign_eq_zero_iff_zero (a := y)
  have hzz := Int.sign_eq_zero_iff_zero (a := z)
  refine Ev.bind (ha.sign (by omega)) (Ev.bind (hb.sign (by omega)) ?_)
  have e1 : IntKind.i64.wrap (y.sign * z.sign) = y.sign * z.sign := by
    have : y.sign * z.sign = -1 ∨ y.sign * z.sign = 0 ∨ y.sign * z.sign = 1 := by rw [← Int.sign_mul]; exact sign_cases _
    exact wrap_i64 (by omega) (by omega)
  rw [e1]
  by_cases hs : 0 ≤ y.sign * z.sign
  · refine Ev.tru (dec_t hs) (Ev.bind (ha.nt.add hb.nt (by omega)) ?_)
    have hL := L_add y.natAbs z.natAbs
    have n1 : Nt (M + 1) (FK.lim (y.natAbs + z.natAbs)) (y.natAbs + z.natAbs) := Nt.of (by omega)
    rw [or_signs hsy hsz hs]
    have hcase : (0 ≤ y ∧ 0 ≤ z) ∨ (y ≤ 0 ∧ z ≤ 0) := by
      rw [← Int.sign_mul] at hs
      have h2 := sign_neg_iff (y * z)
      have h3 : 0 ≤ y * z := by omega
      rcases Int.lt_trichotomy y 0 with h | h | h
      · right
        refine ⟨by omega, Int.not_lt.1 fun h4 => ?_⟩
        have := Int.mul_neg_of_neg_of_pos h h4
        omega
      · omega
      · left
        refine ⟨by omega, Int.not_lt.1 fun h4 => ?_⟩
        have := Int.mul_neg_of_pos_of_neg h h4
        omega
    refine Ev.bind (n1.signed1 (by omega) (by split <;> omega) (by omega) ?_) Ev.pure
    split <;> omega
  · refine Ev.fls (dec_f hs) (Ev.bind (ha.nt.cmp hb.nt (by omega)) ?_)
    have hcase : (y < 0 ∧ 0 < z) ∨ (0 < y ∧ z < 0) := by
      rcases hsy with h1 | h1 | h1 <;> rcases hsz with h2 | h2 | h2 <;> rw [h1, h2] at hs <;> first | (exfalso; revert hs; decide) | omega
    by_cases hge : z.natAbs ≤ y.natAbs
    · refine Ev.tru (dec_t ?_) ?_
      · unfold sgn
        by_cases h1 : ((y.natAbs : Nat) : Int) = (z.natAbs : Nat)
        · rw [if_neg (by omega), if_pos h1]; omega
        · rw [if_neg (by omega), if_neg h1]; omega
      refine Ev.bind (ha.nt.sub hb.nt (by omega) hge) ?_
      have n1 : Nt M (FK.lim (y.natAbs - z.natAbs)) (y.natAbs - z.natAbs) := Nt.of (Nat.le_trans (L_sub _ _) la)
      exact Ev.bind (n1.signed1 (by omega) hsy (by omega) (by rw [hny]; omega)) Ev.pure
    · refine Ev.fls (dec_f ?_) ?_
      · rw [sgn_lt (by omega)]; omega
      refine Ev.bind (hb.nt.sub ha.nt (by omega) (by omega)) ?_
      have n1 : Nt M (FK.lim (z.natAbs - y.natAbs)) (z.natAbs - y.natAbs) := Nt.of (Nat.le_trans (L_sub _ _) lb)
      exact Ev.bind (n1.signed1 (by omega) hsz (by omega) (by rw [hnz]; omega)) Ev.pure

theorem Zt.sub {M : Nat} {a b : Bool × List Int} {y z : Int} (ha : Zt M a y) (hb : Zt M b z) (hM : M ≤ 8796093022207) : Ev (fun k => whole_Sub.f k a b) (int (y - z)) := by
  unfold whole_Sub.f whole_Sub.e
  have h1 : Zt M (int (-z)) (-z) := Zt.of (by rw [LZ_neg]; exact hb.LZ)
  have := ha.add h1 hM
  rw [← Int.sub_eq_add_neg] at this
  exact Ev.bind (hb.neg (by omega)) (Ev.bind this Ev.pure)

theorem whole_Of_ev {n : Int} (h : -9223372036854775808 ≤ n ∧ n ≤ 9223372036854775807) : Ev (fun k => whole_Of.f k n) (int n) := by
  unfold whole_Of.f whole_Of.e
  have hL : LZ n ≤ 2 := L_le (by omega)
  have n1 : Nt 2 (lim n.natAbs) n.natAbs := Nt.of hL
  by_cases h0 : n < 0
  · have e1 : IntKind.u64.wrap (0 - IntKind.u64.wrap n) = -n := by simp only [wrap_u64]; omega
    rw [e1]
    have e2 : (-n).toNat = n.natAbs := by omega
    have := nat_Of_ev (n := -n) (by omega)
    rw [e2] at this
    exact Ev.tru (dec_t h0) (Ev.bind this (Ev.bind (n1.signed1 (by omega) (by omega) rfl (by omega)) Ev.pure))
  · have e1 : IntKind.u64.wrap n = n := wrap_u64_id (by omega) (by omega)
    rw [e1]
    have e2 : n.toNat = n.natAbs := by omega
    have := nat_Of_ev (n := n) (by omega)
    rw [e2] at this
    have s := n1.signed (by omega) [] (by simp) (by simp)
    refine Ev.fls (dec_f h0) (Ev.bind this (Ev.bind s ?_))
    have e3 : decide (prodL [] < 0 ∧ n.natAbs ≠ 0) = decide (n < 0) := by rw [dec_f h0, dec_f (by simp [prodL])]
    rw [e3]
    exact Ev.pure

end Go.FK


/- The plain law: rational numbers, the program's. -/
namespace Go.FK

theorem lim_one : lim 1 = [1] := by rw [lim_single (by omega) (by omega)]; rfl
theorem int_zero : int 0 = (false, []) := by simp [int, lim_zero]
theorem rat_zero : rat 0 = ((false, []), [1]) := by
  unfold rat
  show (int 0, lim 1) = _
  rw [int_zero, lim_one]
theorem rat_mkRat (z : Int) {d : Nat} (hd : d ≠ 0) : rat (mkRat z d) = (int (z / (Nat.gcd z.natAbs d : Nat)), lim (d / Nat.gcd z.natAbs d)) := by
  unfold rat
  rw [Rat.num_mkRat, Rat.den_mkRat, if_neg hd, if_neg hd, Nat.gcd_comm]

theorem made_ev {M : Nat} {a : Bool × List Int} {b : List Int} {z : Int} {d : Nat} (ha : Zt M a z) (hb : Nt M b d) (hd : d ≠ 0) (hM : M ≤ 17592186044415) : Ev (fun k => ratio_made.f k a b) (rat (mkRat z d)) := by
  rw [rat_mkRat z hd]
  unfold ratio_made.f ratio_made.e
  have hg0 : Nat.gcd z.natAbs d ≠ 0 := fun h => hd (Nat.eq_zero_of_gcd_eq_zero_right h)
  have la := ha.nt.L
  have lb := hb.L
  have hgL : L (Nat.gcd z.natAbs d) ≤ M := Nat.le_trans (L_mono (Nat.gcd_le_right _ (by omega))) lb
  have hg := ha.nt.gcd hb hM
  have hdv := Nat.gcd_dvd_left z.natAbs d
  generalize Nat.gcd z.natAbs d = g at *
  have ng : Nt M (lim g) g := Nt.of hgL
  refine Ev.bind hg (Ev.bind (ha.nt.div ng hM hg0) (Ev.bind (hb.div ng hM hg0) ?_))
  obtain ⟨c, hc⟩ := hdv
  have hq : z.natAbs / g = c := by rw [hc, Nat.mul_div_cancel_left _ (by omega)]
  have hv := ha.val
  have hp := V_nonneg ha.lim
  have hZ : Zt M (a.1, lim (z.natAbs / g)) (z / (g : Nat)) := by
    refine ⟨Lim_lim _, ?_, Nat.le_trans (L_div _ _) la⟩
    unfold Zv at hv ⊢
    simp only [V_lim]
    rw [hq]
    have hV : V a.2 = (z.natAbs : Int) := by split at hv <;> omega
    split
    · rename_i h
      rw [if_pos h, hV, hc, Int.natCast_mul] at hv
      rw [← hv, ← Int.mul_neg, Int.mul_ediv_cancel_left _ (by omega)]
    · rename_i h
      rw [if_neg h, hV, hc, Int.natCast_mul] at hv
      rw [← hv, Int.mul_ediv_cancel_left _ (by omega)]
  exact Ev.bind (hZ.norm hM) Ev.pure

abbrev RR := (Bool × List Int) × List Int

theorem Rt.norm {M : Nat} {r : RR} {q : Rat} (h : Rt M r q) (hM : M ≤ 17592186044415) : Ev (fun k => ratio_Norm.f k r) (rat q) := by
  unfold ratio_Norm.f ratio_Norm.e
  obtain ⟨b, hb, hb2, hev⟩ := h.nt.bits (by omega)
  refine Ev.bind hev ?_
  rw [← h.val]
  unfold Qv
  by_cases h0 : (V r.2).toNat = 0
  · have := hb.zero h0
    refine Ev.tru (dec_t (by omega)) ?_
    rw [h0, Rat.mkRat_zero, rat_zero]
    exact Ev.pure
  · have := hb.low h0
    refine Ev.fls (dec_f (by omega)) ?_
    exact Ev.bind (made_ev h.zt h.nt h0 hM) Ev.pure

theorem divInt_cases (y z : Int) : (z < 0 → Rat.divInt y z = mkRat (-y) z.natAbs) ∧ (0 ≤ z → Rat.divInt y z = mkRat y z.natAbs) := by
  constructor
  · intro h
    obtain ⟨n, rfl⟩ : ∃ n : Nat, z = -(n : Int) := ⟨z.natAbs, by omega⟩
    rw [Rat.divInt_neg', Rat.divInt_ofNat]
    simp
  · intro h
    obtain ⟨n, rfl⟩ : ∃ n : Nat, z = (n : Int) := ⟨z.natAbs, by omega⟩
    rw [Rat.divInt_ofNat]
    simp

def noRat : RR := ((false, []), [])

theorem Zt.of_zero {M : Nat} {a b : Bool × List Int} {y : Int} (_ha : Zt M a y) (hb : Zt M b 0) (hM : M ≤ 8796093022207) : Ev (fun k => ratio_Of.f k a b) (noRat, (11 : Int)) := by
  unfold ratio_Of.f ratio_Of.e
  refine Ev.bind (hb.sign (by omega)) ?_
  exact Ev.tru (by simp) Ev.pure
theorem Zt.of_ev {M : Nat} {a b : Bool × List Int} {y z : Int} (ha : Zt M a y) (hb : Zt M b z) (hM : M ≤ 8796093022207) (hz : z ≠ 0) : Ev (fun k => ratio_Of.f k a b) (rat (Rat.divInt y z), (0 : Int)) := by
  unfold ratio_Of.f ratio_Of.e
  have hs := sign_neg_iff z
  have hc := divInt_cases y z
  refine Ev.bind (hb.sign (by omega)) ?_
  refine Ev.fls (dec_f (by rw [Int.sign_eq_zero_iff_zero]; exact hz)) (Ev.bind (hb.sign (by omega)) ?_)
  by_cases h : z < 0
  · refine Ev.tru (dec_t (hs.2 h)) (Ev.bind (ha.neg (by omega)) (Ev.turn (fun k => ratio_Of.p11_succ k _ _ _) ?_))
    unfold ratio_Of.e11
    have hn : Zt M (int (-y)) (-y) := Zt.of (by rw [LZ_neg]; exact ha.LZ)
    rw [hc.1 h]
    exact Ev.bind (made_ev hn hb.nt (by omega) (by omega)) Ev.pure
  · refine Ev.fls (dec_f (by rw [hs]; exact h)) (Ev.turn (fun k => ratio_Of.p11_succ k _ _ _) ?_)
    unfold ratio_Of.e11
    rw [hc.2 (by omega)]
    exact Ev.bind (made_ev ha hb.nt (by omega) (by omega)) Ev.pure

theorem Rt.num' {M : Nat} {q : Rat} (h : FK.LQ q ≤ M) : Zt M (int q.num) q.num := Zt.of (Nat.le_trans (LQ_num q) h)
theorem Rt.den' {M : Nat} {q : Rat} (h : FK.LQ q ≤ M) : Nt M (lim q.den) q.den := Nt.of (Nat.le_trans (LQ_den q) h)

theorem Zt.rof {M : Nat} {a : Bool × List Int} {z : Int} (h : Zt M a z) (hM : M ≤ 17592186044415) : Ev (fun k => ratio_of.f k a) (rat (z : Rat)) := by
  unfold ratio_of.f ratio_of.e
  refine Ev.bind (h.norm hM) ?_
  have : rat (z : Rat) = (int z, [1]) := by
    unfold rat
    rw [Rat.num_intCast, Rat.den_intCast, lim_one]
  rw [this]
  exact Ev.pure

theorem Rt.inv {M : Nat} {r : RR} {q : Rat} (h : Rt M r q) (h1 : 1 ≤ M) (hM : M ≤ 4398046511103) (hq : q ≠ 0) : Ev (fun k => ratio_Inv.f k r) (rat q⁻¹, (0 : Int)) := by
  unfold ratio_Inv.f ratio_Inv.e
  have hL := h.LQ h1
  refine Ev.bind (h.norm (by omega)) ?_
  rw [Rat.inv_def]
  have hn : q.num ≠ 0 := fun h => hq (Rat.num_eq_zero.1 h)
  have := Zt.of_ev (Zt.pos (Rt.den' hL)) (Rt.num' hL) (by omega) hn
  exact Ev.bind this Ev.pure
theorem Rt.inv_zero {M : Nat} {r : RR} (h : Rt M r 0) (h1 : 1 ≤ M) (hM : M ≤ 4398046511103) : Ev (fun k => ratio_Inv.f k r) (noRat, (11 : Int)) := by
  unfold ratio_Inv.f ratio_Inv.e
  have hL := h.LQ h1
  refine Ev.bind (h.norm (by omega)) ?_
  have := Zt.of_zero (Zt.pos (Rt.den' hL)) (Rt.num' hL) (by omega)
  exact Ev.bind this Ev.pure

theorem Rt.neg {M : Nat} {r : RR} {p : Rat} (hr : Rt M r p) (h1 : 1 ≤ M) (hM : M ≤ 1099511627775) : Ev (fun k => ratio_Neg.f k r) (rat (-p)) := by
  unfold ratio_Neg.f ratio_Neg.e
  exact Ev.bind (hr.norm (by omega)) (Ev.bind ((Rt.num' (hr.LQ h1)).neg (by omega)) Ev.pure)

theorem Rt.add {M : Nat} {r s : RR} {p q : Rat} (hr : Rt M r p) (hs : Rt M s q) (h1 : 1 ≤ M) (hM : M ≤ 1099511627775) : Ev (fun k => ratio_Add.f k r s) (rat (p + q)) := by
  unfold ratio_Add.f ratio_Add.e
  have lr := hr.LQ h1
  have ls := hs.LQ h1
  refine Ev.bind (hr.norm (by omega)) (Ev.bind (hs.norm (by omega)) ?_)
  refine Ev.bind ((Rt.num' lr).mul (Zt.pos (Rt.den' ls)) (by omega)) (Ev.bind ((Rt.num' ls).mul (Zt.pos (Rt.den' lr)) (by omega)) ?_)
  have a1 := LZ_mul p.num q.den
  have a2 := LZ_mul q.num p.den
  have a7 := LZ_add (p.num * q.den) (q.num * p.den)
  have a8 := L_mul p.den q.den
  have a3 := LQ_num p; have a4 := LQ_num q; have a5 := LQ_den p; have a6 := LQ_den q
  rw [LZ_nat] at a1 a2
  have hz : Zt (4 * M) (int (p.num * q.den)) (p.num * q.den) := Zt.of (by omega)
  have hy : Zt (4 * M) (int (q.num * p.den)) (q.num * p.den) := Zt.of (by omega)
  have hn : Nt (5 * M) (lim (p.den * q.den)) (p.den * q.den) := Nt.of (by omega)
  have hw : Zt (5 * M) (int (p.num * q.den + q.num * p.den)) (p.num * q.den + q.num * p.den) := Zt.of (by omega)
  rw [Rat.add_def']
  exact Ev.bind (hz.add hy (by omega)) (Ev.bind ((Rt.den' lr).mul (Rt.den' ls) (by omega)) (Ev.bind (made_ev hw hn (Nat.mul_ne_zero p.den_nz q.den_nz) (by omega)) Ev.pure))

theorem Rt.sub {M : Nat} {r s : RR} {p q : Rat} (hr : Rt M r p) (hs : Rt M s q) (h1 : 1 ≤ M) (hM : M ≤ 274877906943) : Ev (fun k => ratio_Sub.f k r s) (rat (p - q)) := by
  unfold ratio_Sub.f ratio_Sub.e
  have hn : Rt (2 * M) (rat (-q)) (-q) := Rt.of (by rw [LQ_neg]; exact hs.LQ h1)
  rw [Rat.sub_eq_add_neg]
  exact Ev.bind (hs.neg h1 (by omega)) (Ev.bind ((hr.mono (by omega)).add hn (by omega) (by omega)) Ev.pure)

end Go.FK


/- The plain law: natural numbers, the reference's. -/
namespace Go.FK

theorem V_bounds' {a : List Int} (h : Lim a) (n : Nat) : 0 ≤ V (a.take n) ∧ V (a.take n) < B ^ n := by
  have h1 := V_nonneg (h.take n)
  have h2 := V_lt (h.take n)
  have h3 : B ^ (a.take n).length ≤ B ^ n := Bpow_le (by simp; omega)
  exact ⟨h1, by omega⟩

theorem rSame_p0 (a b : List Int) (hl : a.length = b.length) (hM : a.length ≤ 35184372088832) : ∀ (m i : Nat), m + i = a.length → a.take i = b.take i → Ev (fun k => ref01_Same.p0 k a b (i : Int)) (decide (a = b)) := by
  intro m
  induction m with
  | zero =>
    intro i hi ht
    refine Ev.turn (fun k => ref01_Same.p0_succ k _ _ _) ?_
    unfold ref01_Same.e0
    refine Ev.fls (dec_f (by omega)) ?_
    rw [List.take_of_length_le (by omega), List.take_of_length_le (by omega)] at ht
    rw [dec_t ht]
    exact Ev.pure
  | succ m ih =>
    intro i hi ht
    refine Ev.turn (fun k => ref01_Same.p0_succ k _ _ _) ?_
    unfold ref01_Same.e0
    have e1 : IntKind.i64.wrap ((i : Int) + 1) = ((i + 1 : Nat) : Int) := by rw [wrap_i64 (by omega) (by omega)]; omega
    simp only [e1, Int.toNat_natCast]
    refine Ev.tru (dec_t (by omega)) (Ev.tru (by simp; omega) (Ev.tru (by simp; omega) ?_))
    by_cases h : nthD 0 a i = nthD 0 b i
    · refine Ev.fls (by simp [h]) (ih (i + 1) (by omega) ?_)
      rw [take_succ_get (by omega), take_succ_get (by omega), ht, h]
    · refine Ev.tru (by simp [h]) ?_
      rw [dec_f (fun h2 => h (by rw [h2]))]
      exact Ev.pure
theorem rSame_ev (a b : List Int) (hM : a.length ≤ 35184372088832) : Ev (fun k => ref01_Same.f k a b) (decide (a = b)) := by
  unfold ref01_Same.f ref01_Same.e
  by_cases h : a.length = b.length
  · exact Ev.fls (by simp [h]) (rSame_p0 a b h hM a.length 0 (by omega) (by simp))
  · refine Ev.tru (by simp; omega) ?_
    rw [dec_f (fun h2 => h (by rw [h2]))]
    exact Ev.pure

theorem r3Same_ev (r s : RR) (h1 : r.1.2.length ≤ 35184372088832) (h2 : r.2.length ≤ 35184372088832) : Ev (fun k => ref03_Same.f k r s) (decide (r = s)) := by
  obtain ⟨⟨x, l⟩, d⟩ := r
  obtain ⟨⟨y, m⟩, e⟩ := s
  unfold ref03_Same.f ref03_Same.e
  by_cases hx : x = y
  · subst hx
    refine Ev.tru (by simp) (Ev.bind (rSame_ev l m h1) ?_)
    by_cases hl : l = m
    · subst hl
      refine Ev.tru (by simp) ?_
      have : decide (((x, l), d) = ((x, l), e)) = decide (d = e) := by simp
      rw [this]
      exact Ev.bind (rSame_ev d e h2) Ev.pure
    · refine Ev.fls (by simpa using hl) ?_
      rw [dec_f (by simp [hl])]
      exact Ev.pure
  · refine Ev.fls (by simpa using hx) ?_
    rw [dec_f (by simp [hx])]
    exact Ev.pure

end Go.FK


/- The plain law: the reference's digits, shifts, division and greatest common divisor. -/
namespace Go.FK

theorem get_V : ∀ {l : List Int}, Lim l → ∀ (j : Nat), nthD 0 l j = V l / B ^ j % B
  | [], _, j => by simp [nthD, V]
  | x :: xs, h, 0 => by
    have h1 := h.cons.1
    simp only [nthD, V, Int.pow_zero, Int.ediv_one, B] at *
    omega
  | x :: xs, h, j + 1 => by
    have ih := get_V h.cons.2 j
    have h1 := h.cons.1
    simp only [nthD, V]
    rw [ih, Int.pow_succ, Int.mul_comm (B ^ j) B, ← Int.ediv_ediv_of_nonneg (by simp [B])]
    congr 2
    simp only [B] at *
    omega

theorem Nt.get {M m : Nat} {a : List Int} (ha : Nt M a m) (j : Nat) : nthD 0 a j = ((m / 2 ^ (32 * j) % 4294967296 : Nat) : Int) := by
  rw [get_V ha.lim, ha.val]
  have : B ^ j = ((2 ^ (32 * j) : Nat) : Int) := by rw [Nat.pow_mul, Int.natCast_pow]; rfl
  rw [this]
  rfl

/-! ### Shifts -/
section
variable (a : List Int) (s : Nat) (J K S : Nat)

/-- What the row is when i limbs have been moved. -/
structure Shi (i : Nat) (o : List Int) : Prop where
  lim : Lim o
  len : o.length = S
  val : V o = V (a.take i) * 2 ^ s * B ^ J / B ^ K
  edge : K ≤ i + J → nthD 0 o (i + J - K) < 2 ^ s
  zero : ∀ j, i + J < j + K → nthD 0 o j = 0

variable {a s J K S}

theorem lo_hi {y : Int} (hs : s < 32) (hy : 0 ≤ y ∧ y < B) : 0 ≤ y * 2 ^ s % B ∧ y * 2 ^ s % B + 2 ^ s ≤ B ∧ 0 ≤ y * 2 ^ s / B ∧ y * 2 ^ s / B < 2 ^ s ∧ y * 2 ^ s % B + B * (y * 2 ^ s / B) = y * 2 ^ s ∧ y * 2 ^ s < 18446744073709551616 ∧ 0 ≤ y * 2 ^ s ∧ (2 : Int) ^ s ≤ 2147483648 := by
  have hp : (2 : Int) ^ s * 2 ^ (32 - s) = B := by rw [← Int.pow_add, show s + (32 - s) = 32 by omega]; rfl
  have hp0 : (0 : Int) < 2 ^ s := Int.pow_pos (by omega)
  have hp1 : (0 : Int) < 2 ^ (32 - s) := Int.pow_pos (by omega)
  have e4 : y * 2 ^ s / B = y / 2 ^ (32 - s) := by rw [← hp, Int.mul_comm y, Int.mul_ediv_mul_of_pos _ _ hp0]
  have h1 : 0 ≤ y / 2 ^ (32 - s) := Int.ediv_nonneg hy.1 (by omega)
  have h2 : y / 2 ^ (32 - s) < 2 ^ s := Int.ediv_lt_of_lt_mul hp1 (by rw [hp]; exact hy.2)
  have hd : (y * 2 ^ s) % B = 2 ^ s * (y % 2 ^ (32 - s)) := by rw [← hp, Int.mul_comm y, Int.mul_emod_mul_of_pos _ _ hp0]
  have h6 := Int.emod_lt_of_pos y hp1
  have h7 : 2 ^ s * (y % 2 ^ (32 - s) + 1) ≤ 2 ^ s * 2 ^ (32 - s) := Int.mul_le_mul_of_nonneg_left h6 (by omega)
  rw [hp, Int.mul_add] at h7
  have h8 : (2 : Int) ^ s ≤ 2147483648 := by
    have h9 : (2 : Nat) ^ s ≤ 2 ^ 31 := Nat.pow_le_pow_right (by omega) (by omega)
    have h10 : ((2 ^ s : Nat) : Int) ≤ ((2 ^ 31 : Nat) : Int) := Int.ofNat_le.2 h9
    rw [Int.natCast_pow] at h10
    exact h10
  have h11 : y * 2 ^ s ≤ y * 2147483648 := Int.mul_le_mul_of_nonneg_left h8 hy.1
  have h12 : 0 ≤ y * 2 ^ s := Int.mul_nonneg hy.1 (by omega)
  refine ⟨Int.emod_nonneg _ (by simp [B]), by rw [hd]; omega, by rw [e4]; exact h1, by rw [e4]; exact h2, Int.emod_add_mul_ediv _ _, ?_, h12, h8⟩
  simp only [B] at hy
  omega

theorem T_lt (ha : Lim a) (i : Nat) : 0 ≤ V (a.take i) * 2 ^ s ∧ V (a.take i) * 2 ^ s + 2 ^ s ≤ B ^ i * 2 ^ s := by
  have h := V_bounds' ha i
  have hp0 : (0 : Int) < 2 ^ s := Int.pow_pos (by omega)
  have h2 : (V (a.take i) + 1) * 2 ^ s ≤ B ^ i * 2 ^ s := Int.mul_le_mul_of_nonneg_right h.2 (by omega)
  rw [Int.add_mul] at h2
  exact ⟨Int.mul_nonneg h.1 (by omega), by omega⟩

/-- A limb moved: to a place in the row, between, or ahead of it. -/
theorem Shi.next (ha : Lim a) (hs : s < 32) (hJK : J = 0 ∨ K = 0) {i : Nat} {o : List Int} (h : Shi a s J K S i o) (_hi : i < a.length)
    (lo hi' : Int) (hlo : lo = nthD 0 a i * 2 ^ s % B) (hhi : hi' = nthD 0 a i * 2 ^ s / B) :
    (∀ p, i + J = p + K → p + 1 < S → Shi a s J K S (i + 1) (setN hi' (setN (nthD 0 o p + lo) o p) (p + 1))) ∧
    (∀ p, i + J = p + K → p + 1 = S → hi' = 0 → Shi a s J K S (i + 1) (setN (nthD 0 o p + lo) o p)) ∧
    (i + 1 + J = K → 0 < S → Shi a s J K S (i + 1) (setN hi' o 0)) ∧
    (i + 1 + J < K → Shi a s J K S (i + 1) o) := by
  have hy := ha.get' i
  obtain ⟨l0, l1, h0, h1, hsum, _, _, _⟩ := lo_hi (s := s) hs hy
  rw [← hlo] at l0 l1
  rw [← hhi] at h0 h1
  rw [← hlo, ← hhi] at hsum
  have hT := T_lt (s := s) ha i
  have hp0 : (0 : Int) < 2 ^ s := Int.pow_pos (by omega)
  have hBK := Bpow_pos K
  have hval : V (a.take (i + 1)) * 2 ^ s * B ^ J = V (a.take i) * 2 ^ s * B ^ J + (lo + B * hi') * B ^ (i + J) := by
    rw [V_take_succ', hsum, Int.pow_add]
    grind
  have hin : ∀ p, i + J = p + K → V (a.take (i + 1)) * 2 ^ s * B ^ J / B ^ K = V o + (lo + B * hi') * B ^ p := by
    intro p hp
    rw [hval, h.val, hp, Int.pow_add]
    rw [show (lo + B * hi') * (B ^ p * B ^ K) = (lo + B * hi') * B ^ p * B ^ K by rw [Int.mul_assoc]]
    rw [Int.add_mul_ediv_right _ _ (by omega)]
  refine ⟨?_, ?_, ?_, ?_⟩
  · intro p hp hpS
    have hx := h.lim.get' p
    have hxe := h.edge (by omega)
    rw [show i + J - K = p by omega] at hxe
    have hz := h.zero (p + 1) (by omega)
    refine ⟨(h.lim.set ⟨by omega, by omega⟩).set ⟨h0, by omega⟩, by rw [length_setN, length_setN]; exact h.len, ?_, ?_, ?_⟩
    · rw [hin p hp, V_setN _ _ _ (by rw [length_setN, h.len]; omega), V_setN _ _ _ (by rw [h.len]; omega), nthD_setN, if_neg (by omega), hz, Int.pow_succ]
      grind
    · intro _
      rw [show i + 1 + J - K = p + 1 by omega, nthD_setN, if_pos ⟨rfl, by rw [length_setN, h.len]; omega⟩]
      exact h1
    · intro j hj
      rw [nthD_setN, if_neg (by omega), nthD_setN, if_neg (by omega)]
      exact h.zero j (by omega)
  · intro p hp hpS h00
    have hx := h.lim.get' p
    have hxe := h.edge (by omega)
    rw [show i + J - K = p by omega] at hxe
    refine ⟨h.lim.set ⟨by omega, by omega⟩, by rw [length_setN]; exact h.len, ?_, ?_, ?_⟩
    · rw [hin p hp, V_setN _ _ _ (by rw [h.len]; omega), h00]
      grind
    · intro _
      rw [show i + 1 + J - K = p + 1 by omega, nthD_beyond (by rw [length_setN, h.len]; omega)]
      exact hp0
    · intro j hj
      rw [nthD_setN, if_neg (by omega)]
      exact h.zero j (by omega)
  · intro hK hS
    have hJ : J = 0 := by omega
    subst hJ
    have hz := h.zero 0 (by omega)
    have hVo : V o = 0 := by
      rw [h.val]
      apply Int.ediv_eq_zero_of_lt
      · rw [Int.pow_zero, Int.mul_one]; exact hT.1
      · rw [Int.pow_zero, Int.mul_one, ← hK, Nat.add_zero, Int.pow_succ]
        have : B ^ i * 2 ^ s ≤ B ^ i * B := Int.mul_le_mul_of_nonneg_left (by omega) (Int.le_of_lt (Bpow_pos i))
        omega
    refine ⟨h.lim.set ⟨h0, by omega⟩, by rw [length_setN]; exact h.len, ?_, ?_, ?_⟩
    · rw [V_setN _ _ _ (by rw [h.len]; omega), hVo, hz, hval, ← hK]
      simp only [Int.pow_zero, Int.mul_one, Nat.add_zero, Int.one_mul, Int.sub_zero, Int.zero_add]
      have e : V (a.take i) * 2 ^ s + (lo + B * hi') * B ^ i = (V (a.take i) * 2 ^ s + lo * B ^ i) + hi' * B ^ (i + 1) := by rw [Int.pow_succ]; grind
      rw [e, Int.add_mul_ediv_right _ _ (by have := Bpow_pos (i + 1); omega), Int.ediv_eq_zero_of_lt, Int.zero_add]
      · have := Int.mul_nonneg l0 (Int.le_of_lt (Bpow_pos i)); omega
      · have h9 : (lo + 2 ^ s) * B ^ i ≤ B * B ^ i := Int.mul_le_mul_of_nonneg_right l1 (Int.le_of_lt (Bpow_pos i))
        rw [Int.add_mul, Int.mul_comm (2 ^ s)] at h9
        rw [Int.pow_succ, Int.mul_comm (B ^ i) B]
        omega
    · intro _
      rw [show i + 1 + 0 - K = 0 by omega, nthD_setN, if_pos ⟨rfl, by rw [h.len]; omega⟩]
      exact h1
    · intro j hj
      rw [nthD_setN, if_neg (by omega)]
      exact h.zero j (by omega)
  · intro hK
    have hJ : J = 0 := by omega
    subst hJ
    refine ⟨h.lim, h.len, ?_, fun h2 => by omega, fun j hj => h.zero j (by omega)⟩
    have small : ∀ t : Nat, t + 1 ≤ K → V (a.take t) * 2 ^ s * B ^ 0 / B ^ K = 0 := by
      intro t ht
      have hT' := T_lt (s := s) ha t
      rw [Int.pow_zero, Int.mul_one]
      apply Int.ediv_eq_zero_of_lt hT'.1
      have h3 : B ^ t * 2 ^ s ≤ B ^ t * B := Int.mul_le_mul_of_nonneg_left (by omega) (Int.le_of_lt (Bpow_pos t))
      rw [← Int.pow_succ] at h3
      have h4 := Bpow_le ht
      exact Int.lt_of_lt_of_le (by omega) (Int.le_trans h3 h4)
    rw [h.val, small i (by omega), small (i + 1) (by omega)]
end

end Go.FK


/- The plain law: the reference's shift. -/
namespace Go.FK

end Go.FK


/- The plain law: the reference's division and greatest common divisor. -/
namespace Go.FK

/-! ### Gcd -/
theorem sgn_zero_iff {x y : Int} : sgn x y = 0 ↔ x = y := by
  unfold sgn
  by_cases h1 : x < y
  · rw [if_pos h1]; omega
  · rw [if_neg h1]
    by_cases h2 : x = y
    · rw [if_pos h2]; omega
    · rw [if_neg h2]; omega
section
variable {M : Nat}

end

end Go.FK


/- The plain law: the reference's whole and rational numbers. -/
namespace Go.FK

/-! ### Rational numbers -/
theorem Rt.mk2 {M : Nat} {a : Bool × List Int} {b : List Int} {z : Int} {d : Nat} (ha : Zt M a z) (hb : Nt M b d) : Rt M (a, b) (mkRat z d) := ⟨ha.lim, hb.lim, ha.len, hb.len, by
  unfold Qv
  rw [ha.val, hb.val, Int.toNat_natCast]⟩

end Go.FK
