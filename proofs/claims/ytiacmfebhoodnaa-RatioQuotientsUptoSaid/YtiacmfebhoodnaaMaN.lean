/- The plain law: the quotient and what is left; the greatest common divisor. -/
import Derived.Test.YtiacmfebhoodnaaMaM
namespace Go.FK

theorem nthD_zeros (n j : Nat) : nthD 0 (List.replicate n (0 : Int)) j = 0 := by
  rw [nthD_eq, List.getD_eq_getElem?_getD]
  by_cases h : j < n <;> simp [h]

theorem bits_or32_high {x y : Int} {s : Nat} (hs : s ≤ 32) (hx : 0 ≤ x ∧ x < 2 ^ (32 - s)) (hy : 0 ≤ y ∧ y < 2 ^ s) : bitsI .or .u32 x (y * 2 ^ (32 - s)) = x + y * 2 ^ (32 - s) := by
  have hp : (2 : Int) ^ s * 2 ^ (32 - s) = B := by rw [← Int.pow_add, show s + (32 - s) = 32 by omega]; rfl
  have h1 : (y + 1) * 2 ^ (32 - s) ≤ 2 ^ s * 2 ^ (32 - s) := Int.mul_le_mul_of_nonneg_right hy.2 (Int.le_of_lt (Int.pow_pos (by omega)))
  have h0 : (0 : Int) < 2 ^ (32 - s) := Int.pow_pos (by omega)
  rw [hp, Int.add_mul] at h1
  have h2 : 0 ≤ y * 2 ^ (32 - s) := Int.mul_nonneg hy.1 (Int.le_of_lt h0)
  have h3 : y * 2 ^ (32 - s) % B = y * 2 ^ (32 - s) := Int.emod_eq_of_lt h2 (by omega)
  have := or_low (u := 32 - s) (x := x) (y := y) (by omega) hx hy.1
  rw [h3] at this
  exact this

theorem long_p4 (u q : List Int) (up n : Nat) (hup : up < 32) (hu : Lim u) (hn : n + 1 ≤ u.length) (hl : u.length ≤ 17592186044417) (hz : nthD 0 u n = 0) (hd : nthD 0 u 0 % 2 ^ up = 0) (R : List Int × List Int)
    (hK : ∀ r : List Int, r.length = n → Lim r → V r * 2 ^ up = V (u.take n) → Ev (fun k => Option.bind (nat_own.f k q) fun r5 => Option.bind (nat_own.f k r) fun r6 => some (r5, r6)) R) :
    ∀ (m i : Nat) (r : List Int), m + i = n → r.length = n → Lim r → V (r.take i) * 2 ^ up = V (u.take i) + B ^ i * (nthD 0 u i % 2 ^ up) → Ev (fun k => nat_long.p4 k u q r (up : Int) (n : Int) (i : Int)) R := by
  intro m
  induction m with
  | zero =>
    intro i r hi hr hlr hV
    have hi : i = n := by omega
    subst hi
    rw [List.take_of_length_le (by omega), hz] at hV
    refine Ev.turn (fun k => nat_long.p4_succ k _ _ _ _ _ _) ?_
    unfold nat_long.e4
    refine Ev.fls (by simp) ?_
    exact hK r hr hlr (by rw [hV]; simp)
  | succ m ih =>
    intro i r hi hr hlr hV
    have hx := hu.get' i
    have hy := hu.get' (i + 1)
    have e1 : IntKind.i64.wrap ((i : Int) + 1) = ((i + 1 : Nat) : Int) := by rw [wrap_i64 (by omega) (by omega)]; omega
    have e2 : IntKind.i64.wrap ((32 : Int) - (up : Int)) = ((32 - up : Nat) : Int) := by rw [wrap_i64 (by omega) (by omega)]; omega
    have hp : (2 : Int) ^ up * 2 ^ (32 - up) = B := by rw [← Int.pow_add, show up + (32 - up) = 32 by omega]; rfl
    have hp0 : (0 : Int) < 2 ^ up := Int.pow_pos (by omega)
    have hp1 : (0 : Int) < 2 ^ (32 - up) := Int.pow_pos (by omega)
    have hple : (2 : Int) ^ (32 - up) ≤ B := by
      have := Int.mul_le_mul_of_nonneg_right (show (1 : Int) ≤ 2 ^ up by omega) (Int.le_of_lt hp1)
      omega
    have e3 : Int.fdiv (nthD 0 u i) (2 ^ min up 32) = nthD 0 u i / 2 ^ up := by rw [Nat.min_eq_left (by omega), Int.fdiv_eq_ediv_of_nonneg _ (by omega)]
    have hy0 : 0 ≤ nthD 0 u (i + 1) * 2 ^ (32 - up) := Int.mul_nonneg hy.1 (by omega)
    have hyb : nthD 0 u (i + 1) * 2 ^ (32 - up) ≤ nthD 0 u (i + 1) * B := Int.mul_le_mul_of_nonneg_left hple hy.1
    have e4 : IntKind.u32.wrap (IntKind.u64.wrap (IntKind.u64.wrap (nthD 0 u (i + 1)) * 2 ^ min (32 - up) 64)) = (nthD 0 u (i + 1) % 2 ^ up) * 2 ^ (32 - up) := by
      have hy2 := hy.2
      simp only [B] at hy2 hyb
      rw [Nat.min_eq_left (by omega), wrap_u64_id hy.1 (by omega), wrap_u64_id hy0 (by omega), wrap_u32]
      show _ % B = _
      rw [← hp, Int.mul_comm (nthD 0 u (i + 1)), Int.mul_comm (2 ^ up), Int.mul_emod_mul_of_pos _ _ hp1, Int.mul_comm]
    have hq0 : 0 ≤ nthD 0 u i / 2 ^ up := Int.ediv_nonneg hx.1 (by omega)
    have hq1 : nthD 0 u i / 2 ^ up < 2 ^ (32 - up) := Int.ediv_lt_of_lt_mul hp0 (by rw [Int.mul_comm, hp]; exact hx.2)
    have hr0 := Int.emod_nonneg (nthD 0 u (i + 1)) (show (2 : Int) ^ up ≠ 0 by omega)
    have hr1 := Int.emod_lt_of_pos (nthD 0 u (i + 1)) hp0
    have e5 := bits_or32_high (s := up) (x := nthD 0 u i / 2 ^ up) (y := nthD 0 u (i + 1) % 2 ^ up) (by omega) ⟨hq0, hq1⟩ ⟨hr0, hr1⟩
    have hval : nthD 0 u i / 2 ^ up + nthD 0 u (i + 1) % 2 ^ up * 2 ^ (32 - up) < B := by
      have := Int.mul_le_mul_of_nonneg_right (show nthD 0 u (i + 1) % 2 ^ up + 1 ≤ 2 ^ up by omega) (Int.le_of_lt hp1)
      rw [hp, Int.add_mul] at this
      omega
    have hval0 : 0 ≤ nthD 0 u (i + 1) % 2 ^ up * 2 ^ (32 - up) := Int.mul_nonneg hr0 (by omega)
    refine Ev.turn (fun k => nat_long.p4_succ k _ _ _ _ _ _) ?_
    unfold nat_long.e4
    simp only [e1, e2, Int.toNat_natCast, e3, e4, e5]
    simp (disch := omega) only [dec_t, dec_f, cond_true, cond_false, Bool.and_true]
    refine ih (i + 1) _ (by omega) (by rw [length_setN]; exact hr) (hlr.set ⟨by omega, hval⟩) ?_
    rw [V_take_setN (by omega), V_take_succ', Int.pow_succ]
    have h6 := Int.emod_add_mul_ediv (nthD 0 u i) (2 ^ up)
    generalize nthD 0 u i / 2 ^ up = d at *
    generalize nthD 0 u i % 2 ^ up = s at *
    generalize nthD 0 u (i + 1) % 2 ^ up = t at *
    generalize B ^ i = P at *
    have h7 : (V (r.take i) + P * (d + t * 2 ^ (32 - up))) * 2 ^ up = V (r.take i) * 2 ^ up + P * (2 ^ up * d) + P * (t * (2 ^ up * 2 ^ (32 - up))) := by
      generalize (2 : Int) ^ up = X
      generalize (2 : Int) ^ (32 - up) = Y
      grind
    rw [h7, hp, hV, ← h6]
    generalize (2 : Int) ^ up * d = Y
    rw [Int.mul_add]
    have h8 : P * B * t = P * (t * B) := by rw [Int.mul_assoc, Int.mul_comm B]
    omega

/-- Rows with no noughts at the end, the divisor at least two limbs. -/
theorem long_ev {m d : Nat} (hd : 2 ≤ L d) (hm : L d ≤ L m) (hM : L m ≤ 17592186044415) : Ev (fun k => nat_long.f k (lim m) (lim d)) (lim (m / d), lim (m % d)) := by
  have hd0 : d ≠ 0 := by intro h; rw [h, L_zero] at hd; omega
  have ht := lim_top hd0
  generalize hn : L d = n at *
  have hln : (lim d).length = n := hn
  generalize hx : nthD 0 (lim d) (n - 1) = x at ht
  have hxB := ht.2.1
  simp only [B] at hxB
  obtain ⟨bl, hbl, hbl32, hlen⟩ := Len32_ev (x := x.toNat) (by omega)
  have hb1 := hbl.low (by omega)
  obtain ⟨up, hup⟩ : ∃ up, up = 32 - bl := ⟨_, rfl⟩
  have hup32 : up < 32 := by omega
  have ntd : Nt n (lim d) d := Nt.of (by omega)
  have ntm : Nt (L m) (lim m) m := Nt.of (Nat.le_refl _)
  obtain ⟨vv, hv1, hv2, hv3, hv4⟩ := ntd.moved (by omega) hup32
  obtain ⟨uu, hu1, hu2, hu3, hu4⟩ := ntm.moved (by omega) hup32
  rw [hln] at hv4
  have hum : uu.length = L m + 1 := hu4
  -- the divisor fits into its limbs still
  have hdB : (d : Int) < (x + 1) * B ^ (n - 1) := by
    have h1 := V_take_succ' (lim d) (n - 1)
    rw [show n - 1 + 1 = n by omega, List.take_of_length_le (by omega), V_lim, hx] at h1
    have h2 := V_bounds (Lim_lim d) (n - 1) (by omega)
    rw [Int.add_mul, Int.mul_comm x]
    omega
  have hxup : (x + 1) * 2 ^ up ≤ B := by
    have h1 : x + 1 ≤ 2 ^ bl := by
      have := hbl.lt
      have h2 : ((x.toNat : Nat) : Int) < ((2 ^ bl : Nat) : Int) := by exact_mod_cast this
      rw [Int.natCast_pow] at h2
      have : (2 : Int) ^ bl = ((2 : Nat) : Int) ^ bl := rfl
      omega
    have h2 : (x + 1) * 2 ^ up ≤ 2 ^ bl * 2 ^ up := Int.mul_le_mul_of_nonneg_right h1 (Int.le_of_lt (Int.pow_pos (by omega)))
    rw [← Int.pow_add, show bl + up = 32 by omega] at h2
    exact h2
  have hp0 : (0 : Int) < 2 ^ up := Int.pow_pos (by omega)
  have hvB : ((d * 2 ^ up : Nat) : Int) < B ^ n := by
    have h1 : (d : Int) * 2 ^ up < (x + 1) * B ^ (n - 1) * 2 ^ up := Int.mul_lt_mul_of_pos_right hdB hp0
    have h2 : (x + 1) * 2 ^ up * B ^ (n - 1) ≤ B * B ^ (n - 1) := Int.mul_le_mul_of_nonneg_right hxup (Int.le_of_lt (Bpow_pos _))
    have h3 : (x + 1) * B ^ (n - 1) * 2 ^ up = (x + 1) * 2 ^ up * B ^ (n - 1) := by rw [Int.mul_assoc, Int.mul_assoc, Int.mul_comm (B ^ (n - 1))]
    have h4 : B ^ n = B * B ^ (n - 1) := by
      have this : B ^ (n - 1 + 1) = B ^ (n - 1) * B := Int.pow_succ _ _
      rw [show n - 1 + 1 = n by omega] at this
      rw [this, Int.mul_comm]
    rw [Int.natCast_mul, Int.natCast_pow]
    show (d : Int) * 2 ^ up < _
    omega
  have hv5 : V (vv.take n) = ((d * 2 ^ up : Nat) : Int) := by
    have h1 := V_split vv n (by omega)
    have h2 := drop_zero_of_lt hv2 (m := n) (by omega) (by rw [hv3]; exact hvB)
    rw [h2, hv3] at h1
    omega
  have hlv : (vv.take n).length = n := by simp; omega
  have hLv := hv2.take n
  generalize hvn : vv.take n = v at *
  generalize hDD : d * 2 ^ up = D at *
  have hD0 : 0 < D := by rw [← hDD]; exact Nat.mul_pos (by omega) (Nat.pow_pos (by omega))
  -- the top limb of the divisor
  have htop : 0 < nthD 0 v (n - 1) := by
    have h1 := V_take_succ' v (n - 1)
    rw [show n - 1 + 1 = n by omega, List.take_of_length_le (by omega), hv5] at h1
    have h2 := V_bounds hLv (n - 1) (by omega)
    have h3 : B ^ (n - 1) ≤ D := by
      have h4 : (d : Int) ≤ D := by
        have : d * 1 ≤ d * 2 ^ up := Nat.mul_le_mul_left _ (Nat.pow_pos (by omega))
        omega
      omega
    have h4 := hLv.get' (n - 1)
    rcases (show nthD 0 v (n - 1) = 0 ∨ 0 < nthD 0 v (n - 1) by omega) with h5 | h5
    · rw [h5] at h1; omega
    · exact h5
  have hsum : ((m * 2 ^ up : Nat) : Int) < B ^ (L m - n + 1) * D := by
    have h1 : (m : Int) < B ^ L m := by
      have := V_lt (Lim_lim m)
      rw [V_lim] at this
      exact this
    have h2 : B ^ L m ≤ B ^ (L m - n + 1) * d := by
      have h3 : B ^ (L m - n + 1) * B ^ (n - 1) ≤ B ^ (L m - n + 1) * d := Int.mul_le_mul_of_nonneg_left ht.2.2.1 (Int.le_of_lt (Bpow_pos _))
      rw [← Int.pow_add, show L m - n + 1 + (n - 1) = L m by omega] at h3
      exact h3
    have h3 : (m : Int) * 2 ^ up < B ^ (L m - n + 1) * d * 2 ^ up := Int.mul_lt_mul_of_pos_right (by omega) hp0
    rw [← hDD, Int.natCast_mul, Int.natCast_mul, Int.natCast_pow, ← Int.mul_assoc]
    exact h3
  -- the loop
  have loop : ∀ (j : Nat) (u q : List Int), j ≤ L m - n + 1 → Lim u → u.length = L m + 1 → Lim q → q.length = L m + 1 - n → (∀ i, i < j → nthD 0 q i = 0) → V u < B ^ j * D → V u + V q * D = ((m * 2 ^ up : Nat) : Int) →
      Ev (fun k => nat_long.p0 k u q (up : Int) v (n : Int) ((j : Int) - 1)) (lim (m / d), lim (m % d)) := by
    intro j
    induction j with
    | zero =>
      intro u q _ hu hul hq hql hz hlt hs
      simp only [Int.pow_zero, Int.one_mul] at hlt
      have hu0 := V_nonneg hu
      have hq0 := V_nonneg hq
      obtain ⟨U, hU⟩ : ∃ U : Nat, V u = U := ⟨(V u).toNat, by omega⟩
      obtain ⟨Q, hQ⟩ : ∃ Q : Nat, V q = Q := ⟨(V q).toNat, by omega⟩
      rw [hU] at hlt
      have hs2 : U + Q * D = m * 2 ^ up := by rw [hU, hQ] at hs; exact_mod_cast hs
      have hlt2 : U < D := by exact_mod_cast hlt
      have hQd : m / d = Q := by
        have h1 : (m * 2 ^ up) / D = Q := by
          rw [← hs2, Nat.add_mul_div_right _ _ hD0, Nat.div_eq_of_lt hlt2]; simp
        rw [← hDD, Nat.mul_div_mul_right _ _ (Nat.pow_pos (by omega))] at h1
        exact h1
      have hUd : U = (m % d) * 2 ^ up := by
        have h1 : (m * 2 ^ up) % D = U := by
          rw [← hs2, Nat.add_mul_mod_self_right, Nat.mod_eq_of_lt hlt2]
        rw [← hDD, Nat.mul_mod_mul_right] at h1
        exact h1.symm
      have hzn : V (u.drop n) = 0 := drop_zero_of_lt hu (by omega) (by rw [hU]; omega)
      refine Ev.turn (fun k => nat_long.p0_succ k _ _ _ _ _ _) ?_
      unfold nat_long.e0
      refine Ev.fls (by simp) (Ev.tru (by simp; omega) ?_)
      have hun : nthD 0 u n = 0 := by
        have h1 := V_take_succ' u n
        have h2 := V_split u n (by omega)
        have h3 := V_split u (n + 1) (by omega)
        have h4 := V_nonneg (hu.drop (n + 1))
        have h5 := hu.get' n
        rw [hzn] at h2
        rw [h1] at h3
        have h6 : 0 ≤ B ^ (n + 1) * V (u.drop (n + 1)) := Int.mul_nonneg (Int.le_of_lt (Bpow_pos _)) h4
        rcases (show nthD 0 u n = 0 ∨ 1 ≤ nthD 0 u n by omega) with h7 | h7
        · exact h7
        · have h8 : B ^ n * 1 ≤ B ^ n * nthD 0 u n := Int.mul_le_mul_of_nonneg_left h7 (Int.le_of_lt (Bpow_pos _))
          have := Bpow_pos n
          omega
      have hu00 : nthD 0 u 0 % 2 ^ up = 0 := by
        have h1 : V u = nthD 0 u 0 + B * V (u.drop 1) := by
          cases u with
          | nil => simp at hul
          | cons y ys => simp [V, nthD]
        have hp : B = 2 ^ up * 2 ^ (32 - up) := by rw [← Int.pow_add, show up + (32 - up) = 32 by omega]; rfl
        have h2 : nthD 0 u 0 = 2 ^ up * ((m % d : Nat) - 2 ^ (32 - up) * V (u.drop 1)) := by
          have hUc : (U : Int) = ((m % d : Nat) : Int) * 2 ^ up := by rw [hUd, Int.natCast_mul, Int.natCast_pow]; rfl
          rw [hU, hUc, hp] at h1
          generalize V (u.drop 1) = Z at *
          generalize ((m % d : Nat) : Int) = A at *
          generalize nthD 0 u 0 = w at *
          generalize (2 : Int) ^ up = X at *
          generalize (2 : Int) ^ (32 - up) = Y at *
          grind
        rw [h2]
        exact Int.mul_emod_right _ _
      have := long_p4 u q up n hup32 hu (by omega) (by omega) hun hu00 (lim (m / d), lim (m % d)) ?_ n 0 (List.replicate n 0) (by omega) (by simp) (Lim_replicate_zero _) (by simp [V, hu00])
      · simpa using this
      · intro r hr hlr hVr
        have h1 : V (u.take n) = U := by
          have h2 := V_split u n (by omega)
          rw [hzn, hU] at h2
          omega
        rw [h1, hUd, Int.natCast_mul, Int.natCast_pow] at hVr
        have h2 : V r = ((m % d : Nat) : Int) := Int.eq_of_mul_eq_mul_right (show (2 : Int) ^ up ≠ 0 by omega) hVr
        have n1 : Nt (L m + 1) q (m / d) := ⟨hq, by rw [hQ, hQd], by omega⟩
        have n2 : Nt n r (m % d) := ⟨hlr, h2, by omega⟩
        exact Ev.bind (n1.own (by omega)) (Ev.bind (n2.own (by omega)) Ev.pure)
    | succ j ih =>
      intro u q hj hu hul hq hql hz hlt hs
      have hu0 := V_nonneg hu
      obtain ⟨U, hU⟩ : ∃ U : Nat, V u = U := ⟨(V u).toNat, by omega⟩
      have hY : 0 < B ^ j * (D : Int) := Int.mul_pos (Bpow_pos j) (by omega)
      generalize hqd : V u / (B ^ j * (D : Int)) = qd
      have hqd0 : 0 ≤ qd := by rw [← hqd]; exact Int.ediv_nonneg hu0 (by omega)
      have hqm := Int.emod_add_mul_ediv (V u) (B ^ j * (D : Int))
      have hm0 := Int.emod_nonneg (V u) (show B ^ j * (D : Int) ≠ 0 by omega)
      have hm1 := Int.emod_lt_of_pos (V u) hY
      rw [hqd] at hqm
      have hcm : qd * (B ^ j * (D : Int)) = B ^ j * (D : Int) * qd := Int.mul_comm _ _
      have dig : Dig u v j n qd := ⟨hu, hLv, hlv, hd, by omega, by omega, htop, by rw [hv5]; exact hlt, hqd0, by rw [hv5]; omega, by rw [hv5, Int.add_mul]; omega⟩
      have hqB := dig.q_lt
      obtain ⟨u', h1, h2, h3, h4⟩ := dig.ev
      rw [hv5] at h4
      refine Ev.turn (fun k => nat_long.p0_succ k _ _ _ _ _ _) ?_
      unfold nat_long.e0
      have e0 : ((j + 1 : Nat) : Int) - 1 = (j : Int) := by omega
      have e1 : IntKind.i64.wrap ((j : Int) + (n : Int)) = ((j + n : Nat) : Int) := by rw [wrap_i64 (by omega) (by omega)]; omega
      have e2 : IntKind.i64.wrap (((j + n : Nat) : Int) + 1) = ((j + n + 1 : Nat) : Int) := by rw [wrap_i64 (by omega) (by omega)]; omega
      have e3 : (((j + n + 1 : Nat) : Int) - (j : Int)).toNat = n + 1 := by omega
      have e4 : IntKind.i64.wrap ((j : Int) - 1) = (j : Int) - 1 := wrap_i64 (by omega) (by omega)
      simp only [e0, e1, e2, e3, e4, Int.toNat_natCast]
      refine Ev.tru (by simp) (Ev.tru (by simp; omega) (Ev.tru (by simp; omega) (Ev.bind h1 (Ev.tru (by simp; omega) ?_))))
      refine ih u' (setN qd q j) (by omega) h2 (by omega) (hq.set ⟨hqd0, hqB⟩) (by rw [length_setN]; exact hql) (fun i hi => by rw [nthD_setN, if_neg (by omega)]; exact hz i (by omega)) ?_ ?_
      · have : qd * (B ^ j * (D : Int)) = B ^ j * (D : Int) * qd := Int.mul_comm _ _
        omega
      · rw [V_setN _ _ _ (by omega), hz j (by omega), h4, ← hs]
        grind
  unfold nat_long.f nat_long.e
  have e1 : IntKind.i64.wrap ((n : Int) - 1) = ((n - 1 : Nat) : Int) := by rw [wrap_i64 (by omega) (by omega)]; omega
  have hx2 : x = (x.toNat : Int) := by omega
  simp only [hln, e1, Int.toNat_natCast, hx]
  refine Ev.tru (by simp; omega) ?_
  have hlz : Ev (fun k => bits_LeadingZeros32.f k x) (up : Int) := by
    unfold bits_LeadingZeros32.f bits_LeadingZeros32.e
    rw [hx2]
    refine Ev.bind hlen ?_
    rw [wrap_i64 (by omega) (by omega), show (32 : Int) - (bl : Int) = (up : Int) by omega]
    exact Ev.pure
  refine Ev.bind hlz (Ev.bind hv1 ?_)
  refine Ev.tru (by simp; omega) (Ev.bind hu1 ?_)
  have e5 : (List.drop (Int.toNat 0) (List.take n vv)) = v := by rw [hvn]; rfl
  simp only [e5, hlv]
  have e6 : IntKind.i64.wrap ((uu.length : Int) - (n : Int)) = ((L m + 1 - n : Nat) : Int) := by rw [wrap_i64 (by omega) (by omega)]; omega
  simp only [e6, Int.toNat_natCast]
  refine Ev.tru (by simp; omega) ?_
  have e7 : IntKind.i64.wrap (((L m + 1 - n : Nat) : Int) - 1) = ((L m - n + 1 : Nat) : Int) - 1 := by rw [wrap_i64 (by omega) (by omega)]; omega
  rw [e7]
  exact loop (L m - n + 1) uu _ (Nat.le_refl _) hu2 hum (Lim_replicate_zero _) (by simp) (fun i _ => nthD_zeros _ i) (by rw [hu3]; exact hsum) (by rw [V_replicate_zero, hu3]; simp)

end Go.FK
