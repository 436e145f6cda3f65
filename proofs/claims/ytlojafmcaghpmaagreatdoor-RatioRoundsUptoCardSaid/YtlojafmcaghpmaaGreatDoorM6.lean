import Derived.Test.YtlojafmcaghpmaaGreatDoorM5
import Derived.Test.YtlojafmcaghpmaaGreatDoorM3

/- The plain law: Decimals. -/
namespace Go.FK

/-! ### Rounding to the even -/
theorem le_mkRat {n a : Int} {b : Nat} (hb : b ≠ 0) : (n : Rat) ≤ mkRat a b ↔ n * b ≤ a := by
  rw [← Rat.divInt_ofNat, Rat.le_iff_sub_nonneg]
  have e : (n : Rat) = Rat.divInt n 1 := by
    have := Rat.num_divInt_den (n : Rat)
    simpa using this.symm
  rw [e, Rat.divInt_sub_divInt _ _ (by omega) (by omega), Int.mul_one, Int.mul_one, Rat.divInt_nonneg_iff_of_pos_right (by omega)]
  omega
theorem qfloor_mkRat (a : Int) {b : Nat} (hb : b ≠ 0) : qfloor (mkRat a b) = a / (b : Int) := by
  apply Int.le_antisymm
  · rw [Int.le_ediv_iff_mul_le (by omega)]
    exact (le_mkRat hb).1 (le_qfloor.1 (Int.le_refl _))
  · rw [le_qfloor, le_mkRat hb]
    exact Int.ediv_mul_le _ (by omega)

theorem den_two {e : Int} {d : Nat} (hd : d ≠ 0) (h1 : -(d : Int) < 2 * e) (h2 : 2 * e ≤ d) : (mkRat e d).den = 2 ↔ 2 * e = d := by
  rw [Rat.den_mkRat, if_neg hd]
  obtain ⟨a, ha⟩ := Nat.gcd_dvd_left d e.natAbs
  obtain ⟨b, hb⟩ := Nat.gcd_dvd_right d e.natAbs
  have hg : 0 < d.gcd e.natAbs := Nat.gcd_pos_of_pos_left _ (by omega)
  constructor
  · intro h
    generalize hG : d.gcd e.natAbs = g at *
    rw [ha, Nat.mul_div_cancel_left _ hg] at h
    subst h
    have h3 : b ≤ 1 := by
      rcases Nat.lt_or_ge b 2 with h | h
      · omega
      · have := Nat.mul_le_mul_left g h
        omega
    rcases Nat.lt_or_ge b 1 with h4 | h4
    · have : b = 0 := by omega
      rw [this, Nat.mul_zero] at hb
      have he : e.natAbs = 0 := hb
      rw [he, Nat.gcd_zero_right] at hG
      omega
    · have : b = 1 := by omega
      rw [this, Nat.mul_one] at hb
      omega
  · intro h
    have he : d = e.natAbs * 2 := by omega
    have : d.gcd e.natAbs = e.natAbs := by rw [he]; exact Nat.gcd_mul_right_left _ _
    rw [this, he, Nat.mul_div_cancel_left _ (by omega)]

/-- N / d rounded to the nearest, of two to the even. -/
def rq (N d : Nat) : Nat := if d < 2 * (N % d) ∨ (2 * (N % d) = d ∧ N / d % 2 = 1) then N / d + 1 else N / d
def halfUp (z : Int) (d : Nat) : Int := (2 * z + d) / (2 * (d : Int))

theorem ediv_is {a b c : Int} (hb : 0 < b) (h1 : c * b ≤ a) (h2 : a < (c + 1) * b) : a / b = c := by
  apply Int.le_antisymm
  · have := (Int.ediv_lt_iff_lt_mul hb).2 h2
    omega
  · exact (Int.le_ediv_iff_mul_le hb).2 h1
theorem halfUp_bounds (z : Int) {d : Nat} (hd : d ≠ 0) : -(d : Int) < 2 * (halfUp z d * d - z) ∧ 2 * (halfUp z d * d - z) ≤ d := by
  have h1 := Int.ediv_mul_le (2 * z + d) (b := 2 * (d : Int)) (by omega)
  have h2 := Int.lt_ediv_add_one_mul_self (2 * z + d) (b := 2 * (d : Int)) (by omega)
  have e1 : (2 * z + d) / (2 * (d : Int)) = halfUp z d := rfl
  rw [e1] at h1 h2
  have e : halfUp z d * (2 * (d : Int)) = 2 * (halfUp z d * d) := by rw [← Int.mul_assoc, Int.mul_comm (halfUp z d) 2, Int.mul_assoc]
  rw [Int.add_mul, e] at h2
  rw [e] at h1
  omega

theorem round_eq (z : Int) {d : Nat} (hd : d ≠ 0) : (if 2 * (halfUp z d * d - z) = d ∧ (halfUp z d).natAbs % 2 = 1 then halfUp z d - 1 else halfUp z d) = if z < 0 then -(rq z.natAbs d : Int) else (rq z.natAbs d : Int) := by
  have h1 := Nat.div_add_mod z.natAbs d
  have h2 := Nat.mod_lt z.natAbs (by omega : 0 < d)
  unfold rq
  generalize hq : z.natAbs / d = q at *
  generalize hr : z.natAbs % d = r at *
  have h3 : ((d * q : Nat) : Int) = (d : Int) * (q : Int) := Int.natCast_mul _ _
  have hmul : ∀ c : Int, c * (2 * (d : Int)) = 2 * (c * d) := fun c => by rw [← Int.mul_assoc, Int.mul_comm c 2, Int.mul_assoc]
  have hc0 : (q : Int) * d = (d : Int) * q := Int.mul_comm _ _
  have hc1 : ((q : Int) + 1) * d = (d : Int) * q + d := by rw [Int.add_mul, hc0]; omega
  have hc2 : ((q : Int) + 1 + 1) * d = (d : Int) * q + d + d := by rw [Int.add_mul, hc1]; omega
  have hn0 : (-(q : Int)) * d = -((d : Int) * q) := by rw [Int.neg_mul, hc0]
  have hn1 : (-(q : Int) + 1) * d = -((d : Int) * q) + d := by rw [Int.add_mul, hn0]; omega
  have hn2 : (-(q : Int) - 1) * d = -((d : Int) * q) - d := by rw [Int.sub_mul, hn0]; omega
  have hn3 : (-(q : Int) - 1 + 1) * d = -((d : Int) * q) := by rw [Int.add_mul, hn2]; omega
  by_cases hz : z < 0
  · rw [if_pos hz]
    by_cases hb : d < 2 * r
    · have e : halfUp z d = -(q : Int) - 1 := ediv_is (by omega) (by rw [hmul, hn2]; omega) (by rw [hmul, hn3]; omega)
      rw [e, if_pos (Or.inl hb), if_neg (by rw [hn2]; omega)]
      omega
    · have e : halfUp z d = -(q : Int) := ediv_is (by omega) (by rw [hmul, hn0]; omega) (by rw [hmul, hn1]; omega)
      rw [e, hn0]
      by_cases ht : 2 * r = d
      · by_cases ho : q % 2 = 1
        · rw [if_pos (by omega), if_pos (by omega)]; omega
        · rw [if_neg (by omega), if_neg (by omega)]
      · rw [if_neg (by omega), if_neg (by omega)]
  · rw [if_neg hz]
    by_cases hb : 2 * r < d
    · have e : halfUp z d = (q : Int) := ediv_is (by omega) (by rw [hmul, hc0]; omega) (by rw [hmul, hc1]; omega)
      rw [e, hc0, if_neg (by omega), if_neg (by omega)]
    · have e : halfUp z d = (q : Int) + 1 := ediv_is (by omega) (by rw [hmul, hc1]; omega) (by rw [hmul, hc2]; omega)
      rw [e, hc1]
      by_cases ht : 2 * r = d
      · by_cases ho : q % 2 = 1
        · rw [if_neg (by omega), if_pos (by omega)]; omega
        · rw [if_pos (by omega), if_neg (by omega)]; omega
      · rw [if_neg (by omega), if_pos (by omega)]; omega

/-! ### Its text -/
theorem bs_append (a b : ByteArray) : bs (a ++ b) = bs a ++ bs b := by
  unfold bs
  rw [ByteArray.data_append, Array.toList_append, List.map_append]
theorem repeat_eq (n : Nat) : bs ⟨(Go.Lib.repeatL (ByteArray.mk #[48]).data.toList n).toArray⟩ = List.replicate n 48 := by
  have e : (ByteArray.mk #[48]).data.toList = List.replicate 1 (48 : UInt8) := rfl
  rw [e, Go.Lib.repeatL_replicate, Nat.mul_one]
  unfold bs
  rw [List.map_replicate]
  rfl

def padz (p : Nat) (l : List Int) : List Int := if l.length ≤ p then List.replicate (p + 1 - l.length) 48 ++ l else l
def dotted (p : Nat) (l : List Int) : List Int := if 0 < p then l.take (l.length - p) ++ 46 :: l.drop (l.length - p) else l
def dtxt (neg : Bool) (Q p : Nat) : List Int := if neg = true ∧ 0 < Q then 45 :: dotted p (padz p (bs (txt Q))) else dotted p (padz p (bs (txt Q)))

theorem padz_length (p : Nat) (l : List Int) : p < (padz p l).length := by
  unfold padz
  split
  · rw [List.length_append, List.length_replicate]; omega
  · omega

variable {M : Nat} {r : RR} {q : Rat}

theorem bit_ev {M n : Nat} (_hM : M ≤ 35184372088832) (h : L n ≤ M) : Ev (fun k => nat_Bit.f k (lim n) 0) (decide (n % 2 = 1)) := by
  have ha : Nt M (lim n) n := Nt.of h
  unfold nat_Bit.f nat_Bit.e
  have e1 : IntKind.i64.wrap (Int.tdiv 0 32) = 0 := by decide
  simp only [e1]
  refine Ev.fls (by simp) ?_
  by_cases h0 : n = 0
  · subst h0
    rw [lim_zero]
    refine Ev.tru (by simp) (Ev.turn (fun k => nat_Bit.p5_succ k _) ?_)
    exact Ev.pure
  · have hp := L_pos h0
    unfold FK.L at hp
    refine Ev.fls (dec_f (by omega)) (Ev.tru (by simp <;> omega) (Ev.fls (by decide) (Ev.eq ?_)))
    have hg := ha.get 0
    have e3 : Int.fdiv (nthD 0 (lim n) 0) (2 ^ min (Int.toNat (Int.tmod 0 32)) 32) = ((n % 4294967296 : Nat) : Int) := by
      rw [hg]
      have : (2 : Int) ^ min (Int.toNat (Int.tmod 0 32)) 32 = 1 := by decide
      rw [this]
      simp
    show decide (bitsI .and .u32 (Int.fdiv (nthD 0 (lim n) 0) (2 ^ min (Int.toNat (Int.tmod 0 32)) 32)) 1 = 1) = _
    rw [e3, bits_and32 (by omega) (by omega)]
    apply decide_eq_decide.2
    have : ((n % 4294967296 : Nat) : Int).toNat &&& (1 : Int).toNat = n % 4294967296 % 2 := by
      rw [Int.toNat_natCast]
      exact Nat.and_one_is_mod _
    rw [this]
    omega

theorem L_rq (N d : Nat) : L (rq N d) ≤ L N + 1 := by
  unfold rq
  split
  · have := L_add (N / d) 1
    have := L_div N d
    have := L_one
    have : max (L (N / d)) (L 1) ≤ max (L N) 1 := by omega
    rcases Nat.eq_zero_or_pos N with h | h
    · subst h
      simp only [Nat.zero_div, Nat.zero_add, L_one]
      omega
    · have := L_pos (n := N) (by omega)
      omega
  · have := L_div N d
    omega

theorem small_dec {a : Int} (h : a ≤ 1000000000000000) : decide (a > IntKind.i64.max) = false := by
  have : IntKind.i64.max = 9223372036854775807 := by decide
  rw [this]
  exact dec_f (by omega)

/-! ### The program -/
theorem dec_p31 (s : ByteArray) : Ev (fun k => ratio_Decimal.p31 k s) (s, (0 : Int)) := by
  refine Ev.turn (fun k => ratio_Decimal.p31_succ k _) ?_
  exact Ev.pure
theorem dec_p27 (x : RR) (Q : Nat) (s : ByteArray) (hs : s.size ≤ 100000000000) : ∃ t, Ev (fun k => ratio_Decimal.p27 k x (lim Q) s) (t, (0 : Int)) ∧ bs t = if x.1.1 = true ∧ 0 < Q then 45 :: bs s else bs s := by
  have hd : decide (((lim Q).length : Int) > 0) = decide (0 < Q) := by
    apply decide_eq_decide.2
    rcases Nat.eq_zero_or_pos Q with h | h
    · subst h; rw [lim_zero]; simp
    · have := L_pos (n := Q) (by omega)
      unfold FK.L at this
      omega
  by_cases h1 : x.1.1 = true
  · by_cases h2 : 0 < Q
    · refine ⟨ByteArray.mk #[45] ++ s, Ev.turn (fun k => ratio_Decimal.p27_succ k _ _ _) ?_, ?_⟩
      · unfold ratio_Decimal.e27
        rw [h1]
        refine Ev.tru rfl (Ev.tru (by rw [hd]; exact dec_t h2) (Ev.fls (small_dec ?_) (dec_p31 _)))
        have : (ByteArray.mk #[45]).size = 1 := rfl
        omega
      · rw [if_pos ⟨h1, h2⟩, bs_append]; rfl
    · refine ⟨s, Ev.turn (fun k => ratio_Decimal.p27_succ k _ _ _) ?_, ?_⟩
      · unfold ratio_Decimal.e27
        rw [h1]
        exact Ev.tru rfl (Ev.fls (by rw [hd]; exact dec_f h2) (dec_p31 _))
      · rw [if_neg (fun h => h2 h.2)]
  · refine ⟨s, Ev.turn (fun k => ratio_Decimal.p27_succ k _ _ _) ?_, ?_⟩
    · unfold ratio_Decimal.e27
      exact Ev.fls (by simpa using h1) (dec_p31 _)
    · rw [if_neg (fun h => h1 h.1)]
theorem dec_p23 (x : RR) (Q p : Nat) (s : ByteArray) (hs : s.size ≤ 10000000000) (hp : p < s.size) : ∃ t, Ev (fun k => ratio_Decimal.p23 k x (p : Int) (lim Q) s) (t, (0 : Int)) ∧ bs t = if x.1.1 = true ∧ 0 < Q then 45 :: dotted p (bs s) else dotted p (bs s) := by
  have e1 : IntKind.i64.wrap ((s.size : Int) - (p : Int)) = ((s.size - p : Nat) : Int) := by rw [wrap_i64 (by omega) (by omega)]; omega
  by_cases h0 : 0 < p
  · have hsz : ((s.extract 0 (s.size - p) ++ ByteArray.mk #[46]) ++ s.extract (s.size - p) s.size).size = s.size + 1 := by
      rw [ByteArray.size_append, ByteArray.size_append, ByteArray.size_extract, ByteArray.size_extract]
      have : (ByteArray.mk #[46]).size = 1 := rfl
      omega
    obtain ⟨t, t1, t2⟩ := dec_p27 x Q ((s.extract 0 (s.size - p) ++ ByteArray.mk #[46]) ++ s.extract (s.size - p) s.size) (by omega)
    refine ⟨t, Ev.turn (fun k => ratio_Decimal.p23_succ k _ _ _ _) ?_, ?_⟩
    · unfold ratio_Decimal.e23
      simp only [e1, Int.toNat_natCast, Int.toNat_zero]
      have a1 : (s.extract 0 (s.size - p) ++ ByteArray.mk #[46]).size ≤ s.size + 1 := by rw [ByteArray.size_append, ByteArray.size_extract]; have : (ByteArray.mk #[46]).size = 1 := rfl; omega
      have a2 : (s.extract (s.size - p) s.size).size ≤ s.size := by rw [ByteArray.size_extract]; omega
      have a3 : (s.extract 0 (s.size - p)).size ≤ s.size := by rw [ByteArray.size_extract]; omega
      have a4 : (ByteArray.mk #[46]).size = 1 := rfl
      exact Ev.tru (dec_t (by omega)) (Ev.tru (by simp <;> omega) (Ev.fls (small_dec (by omega)) (Ev.tru (by simp <;> omega) (Ev.fls (small_dec (by omega)) t1))))
    · rw [t2]
      have e2 : bs ((s.extract 0 (s.size - p) ++ ByteArray.mk #[46]) ++ s.extract (s.size - p) s.size) = dotted p (bs s) := by
        unfold dotted
        rw [if_pos h0, bs_append, bs_append, bs_extract, bs_extract, bs_length, List.drop_zero]
        have : List.take s.size (bs s) = bs s := by rw [← bs_length, List.take_length]
        rw [this]
        show _ ++ [46] ++ _ = _
        rw [List.append_assoc]
        rfl
      rw [e2]
  · obtain ⟨t, t1, t2⟩ := dec_p27 x Q s (by omega)
    refine ⟨t, Ev.turn (fun k => ratio_Decimal.p23_succ k _ _ _ _) ?_, ?_⟩
    · unfold ratio_Decimal.e23
      exact Ev.fls (dec_f (by omega)) t1
    · rw [t2]
      unfold dotted
      rw [if_neg h0]

theorem dec_p17 (x : RR) {Q p : Nat} (hQ : L Q ≤ 100000000) (hp : p ≤ 1000) : ∃ t, Ev (fun k => ratio_Decimal.p17 k x (p : Int) (lim Q)) (t, (0 : Int)) ∧ bs t = dtxt x.1.1 Q p := by
  have hn : Nt 100000000 (lim Q) Q := Nt.of hQ
  have hsz := txt_size Q
  by_cases h : (txt Q).size ≤ p
  · obtain ⟨u, hu⟩ : ∃ u : ByteArray, u = ⟨(Go.Lib.repeatL (ByteArray.mk #[48]).data.toList (p + 1 - (txt Q).size)).toArray⟩ := ⟨_, rfl⟩
    have hb : bs u = List.replicate (p + 1 - (txt Q).size) 48 := by rw [hu]; exact repeat_eq _
    have hus : u.size = p + 1 - (txt Q).size := by rw [← bs_length, hb, List.length_replicate]
    obtain ⟨t, t1, t2⟩ := dec_p23 x Q p (u ++ txt Q) (by rw [ByteArray.size_append]; omega) (by rw [ByteArray.size_append]; omega)
    refine ⟨t, Ev.turn (fun k => ratio_Decimal.p17_succ k _ _ _) ?_, ?_⟩
    · unfold ratio_Decimal.e17
      refine Ev.bind (hn.decimal (by omega)) (Ev.tru (dec_t (by omega)) ?_)
      have e1 : IntKind.i64.wrap (IntKind.i64.wrap ((p : Int) + 1) - ((txt Q).size : Int)) = ((p + 1 - (txt Q).size : Nat) : Int) := by
        rw [wrap_i64 (n := (p : Int) + 1) (by omega) (by omega), wrap_i64 (by omega) (by omega)]; omega
      rw [e1]
      have hr : Ev (fun k => strings_Repeat.f k (ByteArray.mk #[48]) ((p + 1 - (txt Q).size : Nat) : Int)) u := by
        unfold strings_Repeat.f
        have e4 : ((ByteArray.mk #[48]).size : Int) = 1 := rfl
        refine Ev.tru ?_ (Ev.eq ?_)
        · rw [e4]; simp; omega
        · rw [hu, Int.toNat_natCast]
      refine Ev.bind hr (Ev.fls (small_dec ?_) t1)
      omega
    · rw [t2, bs_append, hb]
      unfold dtxt padz
      rw [bs_length, if_pos h]
  · obtain ⟨t, t1, t2⟩ := dec_p23 x Q p (txt Q) (by omega) (by omega)
    refine ⟨t, Ev.turn (fun k => ratio_Decimal.p17_succ k _ _ _) ?_, ?_⟩
    · unfold ratio_Decimal.e17
      exact Ev.bind (hn.decimal (by omega)) (Ev.fls (dec_f (by omega)) t1)
    · rw [t2]
      unfold dtxt padz
      rw [bs_length, if_neg h]

theorem Rt.decimal (h : Rt M r q) (h1 : 1 ≤ M) (hM : M ≤ 2000000) {p : Nat} (hp : p ≤ 1000) : ∃ t, Ev (fun k => ratio_Decimal.f k r (p : Int)) (t, (0 : Int)) ∧ bs t = dtxt (decide (q.num < 0)) (rq (q.num.natAbs * 10 ^ p) q.den) p := by
  have l := h.LQ h1
  have ln := LQ_num q
  have ld := LQ_den q
  have lt := L_ten p
  have lm := L_mul q.num.natAbs (10 ^ p)
  have lnn : L q.num.natAbs ≤ 2 * M := by unfold LZ at ln; omega
  have nn : Nt (2 * M + 1001) (lim q.num.natAbs) q.num.natAbs := Nt.of (by omega)
  have nt : Nt (2 * M + 1001) (lim (10 ^ p)) (10 ^ p) := Nt.of (by omega)
  generalize hN : q.num.natAbs * 10 ^ p = N at *
  have nN : Nt (2 * M + 1001) (lim N) N := Nt.of (by omega)
  have nd : Nt (2 * M + 1001) (lim q.den) q.den := Nt.of (by omega)
  have nr : Nt (2 * M + 1001) (lim (N % q.den)) (N % q.den) := Nt.of (Nat.le_trans (L_mono (Nat.mod_le _ _)) (by omega))
  have lq := L_div N q.den
  have nq : Nt (2 * M + 1002) (lim (N / q.den)) (N / q.den) := Nt.of (by omega)
  have n2 : Nt (2 * M + 1002) (lim (N % q.den + N % q.den)) (N % q.den + N % q.den) := Nt.of (by
    have := L_add (N % q.den) (N % q.den)
    have := L_mono (Nat.mod_le N q.den)
    omega)
  have hdz := q.den_nz
  obtain ⟨t, t1, t2⟩ := dec_p17 (rat q) (Q := rq N q.den) (p := p) (by have := L_rq N q.den; omega) hp
  refine ⟨t, ?_, t2⟩
  unfold ratio_Decimal.f ratio_Decimal.e
  refine Ev.fls (dec_f (by omega)) (Ev.fls (dec_f (by omega)) (Ev.bind (h.norm (by omega)) (Ev.bind (ten_ev (n := p) (by omega)) (Ev.bind ?_ (Ev.bind (nN.div nd (by omega) hdz) (Ev.bind (nr.add nr (by omega)) (Ev.bind (n2.cmp (nd.mono (by omega)) (by omega)) ?_)))))))
  · have := nn.mul nt (by omega)
    rw [hN] at this
    exact this
  have p15 : rq N q.den = N / q.den + 1 → Ev (fun k => ratio_Decimal.p15 k (rat q) (p : Int) (lim (N / q.den))) (t, (0 : Int)) := by
    intro e
    rw [e] at t1
    refine Ev.turn (fun k => ratio_Decimal.p15_succ k _ _ _) ?_
    unfold ratio_Decimal.e15
    exact Ev.bind (nq.add (one_nt (by omega)) (by omega)) t1
  by_cases hgt : q.den < N % q.den + N % q.den
  · refine Ev.tru (dec_t (by rw [sgn_gt (by omega)]; omega)) (p15 ?_)
    unfold rq
    rw [if_pos (.inl (by omega))]
  · refine Ev.fls (dec_f ?_) ?_
    · rcases Nat.lt_or_ge (N % q.den + N % q.den) q.den with h4 | h4
      · rw [sgn_lt (by omega)]; omega
      · rw [sgn_eq (by omega)]; omega
    by_cases heq : N % q.den + N % q.den = q.den
    · refine Ev.tru (dec_t (sgn_eq (by omega))) (Ev.bind (bit_ev (M := 2 * M + 1002) (by omega) (by omega)) ?_)
      by_cases ho : N / q.den % 2 = 1
      · refine Ev.tru (dec_t ho) (p15 ?_)
        unfold rq
        rw [if_pos (.inr ⟨by omega, ho⟩)]
      · refine Ev.fls (dec_f ho) ?_
        have e : rq N q.den = N / q.den := by
          unfold rq
          rw [if_neg (by omega)]
        rw [e] at t1
        exact t1
    · refine Ev.fls (dec_f (by rw [sgn_lt (by omega)]; omega)) ?_
      have e : rq N q.den = N / q.den := by
        unfold rq
        rw [if_neg (by omega)]
      rw [e] at t1
      exact t1

/-! ### The reference -/
theorem rdec_p41 (s : ByteArray) : Ev (fun k => ref03_Decimal.p41 k s) (s, (0 : Int)) := by
  refine Ev.turn (fun k => ref03_Decimal.p41_succ k _) ?_
  exact Ev.pure
theorem rdec_p37 {m : Int} (hm : LZ m ≤ 100000000) (s : ByteArray) (hs : s.size ≤ 100000000000) : ∃ t, Ev (fun k => ref03_Decimal.p37 k (int m) s) (t, (0 : Int)) ∧ bs t = if m < 0 then 45 :: bs s else bs s := by
  have hz : Zt 100000000 (int m) m := Zt.of hm
  by_cases h : m < 0
  · refine ⟨ByteArray.mk #[45] ++ s, Ev.turn (fun k => ref03_Decimal.p37_succ k _ _) ?_, ?_⟩
    · unfold ref03_Decimal.e37
      have : (ByteArray.mk #[45]).size = 1 := rfl
      exact Ev.bind (hz.rsign (by omega)) (Ev.tru (dec_t ((sign_neg_iff m).2 h)) (Ev.fls (small_dec (by omega)) (rdec_p41 _)))
    · rw [if_pos h, bs_append]; rfl
  · refine ⟨s, Ev.turn (fun k => ref03_Decimal.p37_succ k _ _) ?_, ?_⟩
    · unfold ref03_Decimal.e37
      exact Ev.bind (hz.rsign (by omega)) (Ev.fls (dec_f (by rw [sign_neg_iff]; exact h)) (rdec_p41 _))
    · rw [if_neg h]

theorem rdec_p4 {m : Int} (hm : LZ m ≤ 100000000) (p : Nat) (hp : p ≤ 1000) (D : ByteArray) : ∀ (n : Nat) (s : ByteArray), n + s.size = max (p + 1) D.size → s.size ≤ 10000000000 → bs s = List.replicate (s.size - D.size) 48 ++ bs D → D.size ≤ s.size →
    ∃ t, Ev (fun k => ref03_Decimal.p4 k (int m) (p : Int) s) (t, (0 : Int)) ∧ bs t = if m < 0 then 45 :: dotted p (padz p (bs D)) else dotted p (padz p (bs D)) := by
  intro n
  induction n with
  | zero =>
    intro s hn hs hb hle
    have hpad : bs s = padz p (bs D) := by
      unfold padz
      rw [hb, bs_length]
      split
      · congr 2; omega
      · rw [show s.size - D.size = 0 by omega]; rfl
    have hps : p < s.size := by omega
    have e1 : IntKind.i64.wrap ((s.size : Int) - (p : Int)) = ((s.size - p : Nat) : Int) := by rw [wrap_i64 (by omega) (by omega)]; omega
    have a2 : (s.extract (s.size - p) s.size).size ≤ s.size := by rw [ByteArray.size_extract]; omega
    have a3 : (s.extract 0 (s.size - p)).size ≤ s.size := by rw [ByteArray.size_extract]; omega
    have a4 : (ByteArray.mk #[46]).size = 1 := rfl
    have a5 : (ByteArray.mk #[46] ++ s.extract (s.size - p) s.size).size ≤ s.size + 1 := by rw [ByteArray.size_append]; omega
    by_cases h0 : 0 < p
    · obtain ⟨t, t1, t2⟩ := rdec_p37 hm (s.extract 0 (s.size - p) ++ (ByteArray.mk #[46] ++ s.extract (s.size - p) s.size)) (by rw [ByteArray.size_append]; omega)
      refine ⟨t, Ev.turn (fun k => ref03_Decimal.p4_succ k _ _ _) ?_, ?_⟩
      · unfold ref03_Decimal.e4
        simp only [e1, Int.toNat_natCast, Int.toNat_zero]
        exact Ev.fls (dec_f (by omega)) (Ev.tru (by simp <;> omega) (Ev.tru (dec_t (by omega)) (Ev.tru (by simp <;> omega) (Ev.fls (small_dec (by omega)) (Ev.fls (small_dec (by omega)) t1)))))
      · rw [t2]
        have e2 : bs (s.extract 0 (s.size - p) ++ (ByteArray.mk #[46] ++ s.extract (s.size - p) s.size)) = dotted p (padz p (bs D)) := by
          rw [← hpad]
          unfold dotted
          rw [if_pos h0, bs_append, bs_append, bs_extract, bs_extract, bs_length, List.drop_zero]
          have : List.take s.size (bs s) = bs s := by rw [← bs_length, List.take_length]
          rw [this]
          rfl
        rw [e2]
    · obtain ⟨t, t1, t2⟩ := rdec_p37 hm (s.extract 0 (s.size - p)) (by omega)
      refine ⟨t, Ev.turn (fun k => ref03_Decimal.p4_succ k _ _ _) ?_, ?_⟩
      · unfold ref03_Decimal.e4
        simp only [e1, Int.toNat_natCast, Int.toNat_zero]
        exact Ev.fls (dec_f (by omega)) (Ev.tru (by simp <;> omega) (Ev.fls (dec_f (by omega)) t1))
      · rw [t2]
        have e2 : bs (s.extract 0 (s.size - p)) = dotted p (padz p (bs D)) := by
          rw [← hpad]
          unfold dotted
          rw [if_neg h0, bs_extract, List.drop_zero, show s.size - p = s.size by omega, ← bs_length, List.take_length]
        rw [e2]
  | succ n ih =>
    intro s hn hs hb hle
    have e45 : (ByteArray.mk #[48]).size = 1 := rfl
    have hsz : (ByteArray.mk #[48] ++ s).size = s.size + 1 := by rw [ByteArray.size_append]; omega
    obtain ⟨t, t1, t2⟩ := ih (ByteArray.mk #[48] ++ s) (by omega) (by omega) (by
      rw [bs_append, hb, hsz]
      have : s.size + 1 - D.size = (s.size - D.size) + 1 := by omega
      rw [this, List.replicate_succ]
      rfl) (by omega)
    refine ⟨t, Ev.turn (fun k => ref03_Decimal.p4_succ k _ _ _) ?_, t2⟩
    unfold ref03_Decimal.e4
    exact Ev.tru (dec_t (by omega)) (Ev.fls (small_dec (by omega)) t1)

theorem rdec_p25 {m : Int} (hm : LZ m ≤ 100000000) {p : Nat} (hp : p ≤ 1000) : ∃ t, Ev (fun k => ref03_Decimal.p25 k (int m) (p : Int)) (t, (0 : Int)) ∧ bs t = dtxt (decide (m < 0)) m.natAbs p := by
  have hn : Nt 100000000 (lim m.natAbs) m.natAbs := Nt.of hm
  have hsz := txt_size m.natAbs
  have hm' : L m.natAbs ≤ 100000000 := hm
  obtain ⟨t, t1, t2⟩ := rdec_p4 hm p hp (txt m.natAbs) (p + 1 - (txt m.natAbs).size) (txt m.natAbs) (by omega) (by omega) (by simp) (Nat.le_refl _)
  refine ⟨t, Ev.turn (fun k => ref03_Decimal.p25_succ k _ _) ?_, ?_⟩
  · unfold ref03_Decimal.e25
    exact Ev.bind (hn.digits (by omega)) t1
  · rw [t2]
    unfold dtxt
    by_cases h : m < 0
    · rw [if_pos h, if_pos ⟨dec_t h, by omega⟩]
    · rw [if_neg h, if_neg (fun h2 => by rw [dec_f h] at h2; exact absurd h2.1 (by simp))]

theorem lim_two : lim 2 = [2] := by rw [lim_single (by omega) (by omega)]; rfl
theorem same_two (d : Nat) (hM : L d ≤ 1000000000) : Ev (fun k => ref01_Same.f k (lim d) [2]) (decide (d = 2)) := by
  have h := rSame_ev (lim d) [2] (by show L d ≤ _; omega)
  have e : decide (lim d = [2]) = decide (d = 2) := by
    apply decide_eq_decide.2
    constructor
    · intro h
      have := V_lim d
      rw [h] at this
      simp only [V] at this
      omega
    · intro h; subst h; exact lim_two
  rw [e] at h
  exact h

theorem mul_int_eq (q : Rat) (n : Int) : q * (n : Rat) = mkRat (q.num * n) q.den := by
  rw [Rat.mul_def', Rat.num_intCast, Rat.den_intCast, Nat.mul_one]
theorem floor_half (z : Int) {d : Nat} (hd : d ≠ 0) : qfloor (mkRat z d + mkRat 1 2) = halfUp z d := by
  rw [Rat.mkRat_add_mkRat _ _ hd (by omega), qfloor_mkRat _ (Nat.mul_ne_zero hd (by omega))]
  unfold halfUp
  have e1 : z * ((2 : Nat) : Int) + 1 * (d : Int) = 2 * z + d := by omega
  have e2 : ((d * 2 : Nat) : Int) = 2 * (d : Int) := by omega
  rw [e1, e2]
theorem int_sub_mkRat (m z : Int) {d : Nat} (hd : d ≠ 0) : (m : Rat) - mkRat z d = mkRat (m * d - z) d := by
  have e : (m : Rat) = Rat.divInt m 1 := by
    have := Rat.num_divInt_den (m : Rat)
    simpa using this.symm
  rw [e, ← Rat.divInt_ofNat, Rat.divInt_sub_divInt _ _ (by omega) (by omega), Int.mul_one, Int.one_mul, Rat.divInt_ofNat]

theorem rdec_p0 (h : Rt M r q) (h1 : 1 ≤ M) (hM : M ≤ 2000000) {p : Nat} (hp : p ≤ 1000) : ∃ t, bs t = dtxt (decide (q.num < 0)) (rq (q.num.natAbs * 10 ^ p) q.den) p ∧ ∀ (n i : Nat), n + i = p → Ev (fun k => ref03_Decimal.p0 k r (p : Int) (lim (10 ^ i)) (i : Int)) (t, (0 : Int)) := by
  have l := h.LQ h1
  have lt := L_ten p
  have hdz := q.den_nz
  have hx : q * (((10 ^ p : Nat) : Int) : Rat) = mkRat (q.num * ((10 ^ p : Nat) : Int)) q.den := mul_int_eq q _
  obtain ⟨z, hz⟩ : ∃ z, z = q.num * ((10 ^ p : Nat) : Int) := ⟨_, rfl⟩
  rw [← hz] at hx
  have hpow : 0 < 10 ^ p := Nat.pow_pos (by omega)
  have hzn : z.natAbs = q.num.natAbs * 10 ^ p := by rw [hz, Int.natAbs_mul, Int.natAbs_natCast]
  have hzneg : z < 0 ↔ q.num < 0 := by
    rw [hz]
    constructor
    · intro h2
      rcases Int.lt_or_le q.num 0 with h3 | h3
      · exact h3
      · exact absurd (Int.mul_nonneg h3 (by omega : (0 : Int) ≤ ((10 ^ p : Nat) : Int))) (by omega)
    · intro h2
      exact Int.mul_neg_of_neg_of_pos h2 (by omega)
  have hb := halfUp_bounds z hdz
  have he := round_eq z hdz
  have hlz : LZ (halfUp z q.den) ≤ 2 * M + 1004 := by
    have e1 : (halfUp z q.den).natAbs ≤ z.natAbs + 1 := by
      have h2 : (2 * (halfUp z q.den * q.den - z)).natAbs ≤ q.den := by omega
      have h3 : (halfUp z q.den * q.den).natAbs ≤ z.natAbs + q.den := by omega
      rw [Int.natAbs_mul, Int.natAbs_natCast] at h3
      have h5 : 1 ≤ q.den := q.den_pos
      rcases Nat.lt_or_ge (z.natAbs + 1) (halfUp z q.den).natAbs with h6 | h6
      · have h7 : (z.natAbs + 1 + 1) * q.den ≤ (halfUp z q.den).natAbs * q.den := Nat.mul_le_mul_right _ h6
        have h8 : (z.natAbs + 1) * 1 ≤ (z.natAbs + 1) * q.den := Nat.mul_le_mul_left _ h5
        rw [Nat.add_mul] at h7
        omega
      · exact h6
    have e2 := L_mono e1
    have e3 := L_add z.natAbs 1
    have e4 := L_mul q.num.natAbs (10 ^ p)
    have e5 := LQ_num q
    rw [L_one] at e3
    rw [← hzn] at e4
    unfold LZ at *
    omega
  obtain ⟨m', hm'⟩ : ∃ m', m' = if 2 * (halfUp z q.den * q.den - z) = q.den ∧ (halfUp z q.den).natAbs % 2 = 1 then halfUp z q.den - 1 else halfUp z q.den := ⟨_, rfl⟩
  rw [← hm'] at he
  have hlm : LZ m' ≤ 2 * M + 1006 := by
    rw [hm']
    have := LZ_sub (halfUp z q.den) 1
    rw [(show LZ 1 = 1 from L_one)] at this
    split <;> omega
  obtain ⟨t, t1, t2⟩ := rdec_p25 (m := m') (by omega) hp
  refine ⟨t, ?_, ?_⟩
  · rw [t2, he, ← hzn]
    unfold dtxt
    by_cases h2 : z < 0
    · rw [if_pos h2]
      have e1 : (-(rq z.natAbs q.den : Int)).natAbs = rq z.natAbs q.den := by omega
      rw [e1]
      by_cases h3 : 0 < rq z.natAbs q.den
      · rw [if_pos ⟨dec_t (by omega), h3⟩, if_pos ⟨dec_t (hzneg.1 h2), h3⟩]
      · rw [if_neg (fun h => h3 h.2), if_neg (fun h => h3 h.2)]
    · rw [if_neg h2]
      have e1 : ((rq z.natAbs q.den : Nat) : Int).natAbs = rq z.natAbs q.den := by omega
      rw [e1, dec_f (by omega), dec_f (fun h => h2 (hzneg.2 h))]
  · intro n
    induction n with
    | succ n ih =>
      intro i hi
      have e1 : IntKind.i64.wrap ((i : Int) + 1) = ((i + 1 : Nat) : Int) := by rw [wrap_i64 (by omega) (by omega)]; omega
      refine Ev.turn (fun k => ref03_Decimal.p0_succ k _ _ _ _) ?_
      unfold ref03_Decimal.e0
      have l2 := L_ten i
      have n1 : Nt 1002 (lim (10 ^ i)) (10 ^ i) := Nt.of (by omega)
      have h10 : Nt 1002 [10] 10 := (Nt.one (by simp [B])).mono (by omega)
      refine Ev.tru (dec_t (by omega)) (Ev.bind (n1.rmul h10 (by omega)) ?_)
      rw [e1, ← Nat.pow_succ]
      exact ih (i + 1) (by omega)
    | zero =>
      intro i hi
      obtain rfl : i = p := by omega
      refine Ev.turn (fun k => ref03_Decimal.p0_succ k _ _ _ _) ?_
      unfold ref03_Decimal.e0 ref03_positive.f ref03_positive.e
      have nt : Nt (2 * M + 1001) (lim (10 ^ i)) (10 ^ i) := Nt.of (by omega)
      have zt := Zt.pos nt
      have rt : Rt (2 * M + 1002) (rat (((10 ^ i : Nat) : Int) : Rat)) (((10 ^ i : Nat) : Int) : Rat) := Rt.of (by rw [LQ_int, LZ_nat]; omega)
      have lx := LQ_mul q (((10 ^ i : Nat) : Int) : Rat)
      rw [LQ_int, LZ_nat, hx] at lx
      have hh : Rt 10 ((false, [1]), [2]) (mkRat 1 2) := half_rt (by omega)
      have lh := hh.LQ (by omega)
      have rh : Rt (2 * M + 1100) (rat (mkRat 1 2)) (mkRat 1 2) := Rt.of (by omega)
      have rx : Rt (2 * M + 1100) (rat (mkRat z q.den)) (mkRat z q.den) := Rt.of (by omega)
      have ls := LQ_add (mkRat z q.den) (mkRat 1 2)
      have rs : Rt (10 * M + 5000) (rat (mkRat z q.den + mkRat 1 2)) (mkRat z q.den + mkRat 1 2) := Rt.of (by omega)
      have hmul := (h.mono (M' := 2 * M + 1100) (by omega)).rmul (rt.mono (M' := 2 * M + 1100) (by omega)) (by omega) (by omega)
      rw [hx] at hmul
      have hfl := rs.rfloor (by omega) (by omega)
      rw [floor_half z hdz] at hfl
      have zm : Zt (2 * M + 1100) (int (halfUp z q.den)) (halfUp z q.den) := Zt.of (by omega)
      have rm : Rt (2 * M + 1100) (rat (halfUp z q.den : Rat)) (halfUp z q.den : Rat) := Rt.of (by rw [LQ_int]; omega)
      have lsub := LQ_sub (halfUp z q.den : Rat) (mkRat z q.den)
      rw [LQ_int] at lsub
      have rsub : Rt (20 * M + 10000) (rat ((halfUp z q.den : Rat) - mkRat z q.den)) ((halfUp z q.den : Rat) - mkRat z q.den) := Rt.of (by omega)
      have hd2 := den_two hdz hb.1 hb.2
      have hsame := same_two ((halfUp z q.den : Rat) - mkRat z q.den).den (by have := LQ_den ((halfUp z q.den : Rat) - mkRat z q.den); omega)
      refine Ev.fls (dec_f (by omega)) (Ev.bind Ev.pure (Ev.bind (zt.rint (by omega) (by omega)) (Ev.bind hmul (Ev.bind Ev.pure (Ev.bind (hh.rnorm (by omega)) (Ev.bind (rx.radd rh (by omega) (by omega)) (Ev.bind hfl (Ev.bind (zm.rint (by omega) (by omega)) (Ev.bind (rm.rsub rx (by omega) (by omega)) (Ev.bind (rsub.rnorm (by omega)) (Ev.bind hsame ?_)))))))))))
      rw [int_sub_mkRat _ _ hdz]
      by_cases ht : 2 * (halfUp z q.den * q.den - z) = q.den
      · refine Ev.tru (dec_t (hd2.2 ht)) (Ev.bind (rGcd_bit (M := 2 * M + 1100) (by omega) (by unfold LZ at hlz; omega)) ?_)
        by_cases ho : (halfUp z q.den).natAbs % 2 = 1
        · rw [if_pos ⟨ht, ho⟩] at hm'
          rw [hm'] at t1
          exact Ev.tru (dec_t ho) (Ev.bind (ref02_Of_ev (n := 1) (by omega)) (Ev.bind (zm.rsub (one_zt (by omega)) (by omega)) t1))
        · rw [if_neg (fun h => ho h.2)] at hm'
          rw [hm'] at t1
          exact Ev.fls (dec_f ho) t1
      · rw [if_neg (fun h => ht h.1)] at hm'
        rw [hm'] at t1
        exact Ev.fls (dec_f (fun h => ht (hd2.1 h))) t1

theorem Rt.rdecimal (h : Rt M r q) (h1 : 1 ≤ M) (hM : M ≤ 2000000) {p : Nat} (hp : p ≤ 1000) : ∃ t, Ev (fun k => ref03_Decimal.f k r (p : Int)) (t, (0 : Int)) ∧ bs t = dtxt (decide (q.num < 0)) (rq (q.num.natAbs * 10 ^ p) q.den) p := by
  obtain ⟨t, t1, t2⟩ := rdec_p0 h h1 hM hp
  refine ⟨t, ?_, t1⟩
  have := t2 p 0 (by omega)
  rw [Nat.pow_zero, lim_one] at this
  unfold ref03_Decimal.f ref03_Decimal.e
  exact Ev.fls (dec_f (by omega)) (Ev.fls (dec_f (by omega)) this)

def badPl (n : Int) : Prop := n < 0 ∨ 1000 < n
theorem dec_bad {n : Int} (h : badPl n) : Ev (fun k => ratio_Decimal.f k r n) (ByteArray.mk #[], (32 : Int)) := by
  unfold ratio_Decimal.f ratio_Decimal.e
  have p5 : Ev (fun k => ratio_Decimal.p5 k ()) (ByteArray.mk #[], (32 : Int)) := Ev.turn (fun k => ratio_Decimal.p5_succ k _) Ev.pure
  by_cases h1 : n < 0
  · exact Ev.tru (dec_t h1) p5
  · exact Ev.fls (dec_f h1) (Ev.tru (dec_t (by unfold badPl at h; omega)) p5)
theorem rdec_bad {n : Int} (h : badPl n) : Ev (fun k => ref03_Decimal.f k r n) (ByteArray.mk #[], (32 : Int)) := by
  unfold ref03_Decimal.f ref03_Decimal.e
  have p5 : Ev (fun k => ref03_Decimal.p5 k ()) (ByteArray.mk #[], (32 : Int)) := Ev.turn (fun k => ref03_Decimal.p5_succ k _) Ev.pure
  by_cases h1 : n < 0
  · exact Ev.tru (dec_t h1) p5
  · exact Ev.fls (dec_f h1) (Ev.tru (dec_t (by unfold badPl at h; omega)) p5)

theorem law_decimals_ev (h : Rt M r q) (h1 : 1 ≤ M) (hM : M ≤ 2000000) (n : Int) : Ev (fun k => law03_RatioDecimals.f k r n) true := by
  unfold law03_RatioDecimals.f law03_RatioDecimals.e
  by_cases hn : badPl n
  · exact Ev.bind (h.twin (by omega)) (Ev.bind (dec_bad hn) (Ev.bind (rdec_bad hn) (Ev.bind half_ev (Ev.tru rfl (Ev.tru (by rw [beq_bs]; simp) (Ev.eq (by simp)))))))
  · obtain ⟨p, rfl⟩ : ∃ p : Nat, n = (p : Int) := ⟨n.toNat, by unfold badPl at hn; omega⟩
    have hp : p ≤ 1000 := by unfold badPl at hn; omega
    obtain ⟨s, s1, s2⟩ := h.decimal h1 hM hp
    obtain ⟨t, t1, t2⟩ := h.rdecimal h1 hM hp
    exact Ev.bind (h.twin (by omega)) (Ev.bind s1 (Ev.bind t1 (Ev.bind half_ev (Ev.tru rfl (Ev.tru (by rw [beq_bs, s2, t2]; simp) (Ev.eq (by simp)))))))

end Go.FK


/- The plain law: the digits of a number, read again; Rounds. -/
namespace Go.FK

/-! ### Digits -/
theorem chr_eq : ∀ n : Nat, n < 10 → chr n = 48 + (n : Int) := by decide +kernel
theorem bs_push (s : ByteArray) (c : UInt8) : bs (s.push c) = bs s ++ [(c.toNat : Int)] := by
  unfold bs
  rw [ByteArray.data_push, Array.toList_push, List.map_append]
  rfl
theorem bs_ofB_from : ∀ (l : List Int) (s : ByteArray), (∀ x ∈ l, 0 ≤ x ∧ x < 256) → bs (l.foldl (fun s n => s.push (UInt8.ofNat n.toNat)) s) = bs s ++ l
  | [], s, _ => by simp
  | x :: xs, s, h => by
    have hx := h x (by simp)
    rw [List.foldl_cons, bs_ofB_from xs _ (fun y hy => h y (by simp [hy])), bs_push]
    have : ((UInt8.ofNat x.toNat).toNat : Int) = x := by
      rw [UInt8.toNat_ofNat']
      have : x.toNat % 2 ^ 8 = x.toNat := Nat.mod_eq_of_lt (by omega)
      rw [this]; omega
    rw [this, List.append_assoc]
    rfl
theorem bs_ofB {l : List Int} (h : ∀ x ∈ l, 0 ≤ x ∧ x < 256) : bs (ofB l) = l := by
  unfold ofB
  rw [bs_ofB_from l _ h]
  rfl
theorem dg_mem (n : Nat) : ∀ x ∈ dg n, dgt x = true := by
  induction n using Nat.strongRecOn with
  | _ n ih =>
    intro x hx
    by_cases h : n = 0
    · rw [h, dg_zero] at hx; cases hx
    · rw [dg_pos h] at hx
      rcases List.mem_cons.1 hx with hx | hx
      · subst hx
        rw [chr_eq _ (Nat.mod_lt _ (by omega))]
        unfold dgt
        have := Nat.mod_lt n (by omega : 0 < 10)
        simp; omega
      · exact ih _ (by omega) x hx
/-- The digits, the highest first. -/
def dd (n : Nat) : List Int := if n = 0 then [48] else (dg n).reverse
theorem dgt_range {x : Int} (h : dgt x = true) : 48 ≤ x ∧ x ≤ 57 := by
  unfold dgt at h
  simpa using h
theorem bs_txt (n : Nat) : bs (txt n) = dd n := by
  unfold txt fin dd
  by_cases h : n = 0
  · subst h
    rw [dg_zero, if_pos rfl, if_pos rfl]
    rfl
  · have : dg n ≠ [] := by rw [dg_pos h]; simp
    rw [if_neg this, if_neg h]
    exact bs_ofB fun x hx => by
      have := dgt_range (dg_mem n x (by simpa using hx))
      omega
theorem dd_snoc (n : Nat) : ∃ l, dd n = l ++ [48 + ((n % 10 : Nat) : Int)] ∧ (l = [] ∨ l = dd (n / 10)) := by
  by_cases h : n = 0
  · subst h
    exact ⟨[], rfl, .inl rfl⟩
  · unfold dd
    rw [if_neg h, dg_pos h, List.reverse_cons, chr_eq _ (Nat.mod_lt _ (by omega))]
    refine ⟨_, rfl, ?_⟩
    by_cases h1 : n / 10 = 0
    · left; rw [h1, dg_zero]; rfl
    · right; rw [if_neg h1]
theorem dd_all (n : Nat) : (dd n).all dgt = true := by
  rw [List.all_eq_true]
  intro x hx
  unfold dd at hx
  split at hx
  · simp only [List.mem_singleton] at hx; subst hx; decide
  · exact dg_mem n x (by simpa using hx)
theorem dd_val : ∀ n : Nat, dval (dd n) = n := by
  intro n
  induction n using Nat.strongRecOn with
  | _ n ih =>
    by_cases h : n = 0
    · subst h; decide
    · unfold dd
      rw [if_neg h, dg_pos h, List.reverse_cons, dval_snoc, chr_eq _ (Nat.mod_lt _ (by omega))]
      by_cases h1 : n / 10 = 0
      · rw [h1, dg_zero]
        show 0 * 10 + _ = _
        omega
      · have := ih (n / 10) (by omega)
        unfold dd at this
        rw [if_neg h1] at this
        rw [this]
        omega
theorem dd_ne (n : Nat) : dd n ≠ [] := by
  obtain ⟨l, h, _⟩ := dd_snoc n
  rw [h]; simp
/-- No nought at the front of a longer one. -/
theorem dd_head : ∀ n : Nat, 0 < n → nthD 0 (dd n) 0 ≠ 48 := by
  intro n
  induction n using Nat.strongRecOn with
  | _ n ih =>
    intro hn
    obtain ⟨l, h, hl⟩ := dd_snoc n
    by_cases h1 : n / 10 = 0
    · unfold dd
      rw [if_neg (by omega), dg_pos (by omega), h1, dg_zero, chr_eq _ (Nat.mod_lt _ (by omega))]
      show (48 + ((n % 10 : Nat) : Int)) ≠ 48
      omega
    · have h2 := ih (n / 10) (by omega) (by omega)
      have e : dd n = dd (n / 10) ++ [48 + ((n % 10 : Nat) : Int)] := by
        unfold dd
        rw [if_neg (by omega), if_neg h1, dg_pos (by omega), List.reverse_cons, chr_eq _ (Nat.mod_lt _ (by omega))]
      rw [e]
      have hne := dd_ne (n / 10)
      cases hd : dd (n / 10) with
      | nil => exact absurd hd hne
      | cons x xs => rw [hd] at h2; exact h2
theorem dd_zero_head {n : Nat} (h : 1 < (dd n).length) : nthD 0 (dd n) 0 ≠ 48 := by
  by_cases hn : n = 0
  · subst hn; simp [dd] at h
  · exact dd_head n (by omega)
theorem pn_dd (n : Nat) : pn (dd n) = some n := by
  unfold pn
  rw [if_neg (fun h => by
    rcases h with h | h
    · exact dd_ne n h
    · exact dd_zero_head h.1 h.2), if_pos (dd_all n), dd_val]
theorem dd_length10 : ∀ (t n : Nat), n < 10 ^ t → (dg n).length ≤ t := by
  intro t
  induction t with
  | zero => intro n hn; obtain rfl : n = 0 := by simpa using hn
            rw [dg_zero]; simp
  | succ t ih =>
    intro n hn
    by_cases h : n = 0
    · subst h; rw [dg_zero]; simp
    · have := ih (n / 10) (by rw [Nat.pow_succ] at hn; omega)
      rw [dg_pos h, List.length_cons]; omega
theorem dd_size (n : Nat) : (dd n).length ≤ 10 * L n + 1 := by
  unfold dd
  split
  · simp
  · rw [List.length_reverse]
    have h1 := L_lt n
    have h2 : 4294967296 ^ L n ≤ (10 ^ 10) ^ L n := Nat.pow_le_pow_left (by decide) _
    rw [← Nat.pow_mul] at h2
    have := dd_length10 (10 * L n) n (by omega)
    omega

/-! ### What is read -/
theorem dval_append (a : List Int) : ∀ (n : Nat) (b : List Int), b.length = n → dval (a ++ b) = dval a * 10 ^ b.length + dval b := by
  intro n
  induction n with
  | zero => intro b hb; rw [List.length_eq_zero_iff.1 hb]; simp [dval]
  | succ n ih =>
    intro b hb
    obtain ⟨c, x, rfl⟩ : ∃ c x, b = c ++ [x] := ⟨b.dropLast, b.getLast (by intro h; subst h; simp at hb), (List.dropLast_concat_getLast _).symm⟩
    have hc : c.length = n := by simpa using hb
    have := ih c hc
    rw [← List.append_assoc, dval_snoc, dval_snoc, this, List.length_append, List.length_singleton, Nat.pow_succ]
    rw [Nat.add_mul, Nat.mul_assoc]
    omega
theorem rep48 (k : Nat) : (List.replicate k (48 : Int)).all dgt = true ∧ dval (List.replicate k 48) = 0 := by
  induction k with
  | zero => exact ⟨rfl, rfl⟩
  | succ k ih =>
    rw [List.replicate_succ']
    refine ⟨?_, ?_⟩
    · rw [List.all_append, ih.1]; rfl
    · rw [dval_snoc, ih.2]; rfl
theorem padz_all (p n : Nat) : (padz p (dd n)).all dgt = true ∧ dval (padz p (dd n)) = n := by
  unfold padz
  split
  · rw [List.all_append, (rep48 _).1, dd_all, dval_append _ _ _ rfl, (rep48 _).2, dd_val]
    exact ⟨rfl, by omega⟩
  · exact ⟨dd_all n, dd_val n⟩
theorem padz_front (p n : Nat) : pn ((padz p (dd n)).take ((padz p (dd n)).length - p)) = some (dval ((padz p (dd n)).take ((padz p (dd n)).length - p))) := by
  have hl := padz_length p (dd n)
  have hall : ((padz p (dd n)).take ((padz p (dd n)).length - p)).all dgt = true := by
    rw [List.all_eq_true]
    intro x hx
    exact List.all_eq_true.1 (padz_all p n).1 x (List.mem_of_mem_take hx)
  unfold pn
  rw [if_neg, if_pos hall]
  intro h
  rcases h with h | ⟨h1, h2⟩
  · have := congrArg List.length h
    simp at this
    omega
  · rw [List.length_take] at h1
    unfold padz at h1 h2
    split at h1
    · rename_i hle
      rw [List.length_append, List.length_replicate] at h1
      omega
    · rename_i hle
      rw [if_neg hle] at h2
      have h3 : 1 < (dd n).length := by omega
      have h4 := dd_zero_head h3
      have h5 : 0 < (dd n).length - p := by omega
      cases hd : dd n with
      | nil => exact dd_ne n hd
      | cons x xs =>
        rw [hd] at h2 h4 h5
        obtain ⟨m, hm⟩ : ∃ m, (x :: xs).length - p = m + 1 := ⟨(x :: xs).length - p - 1, by omega⟩
        rw [hm, List.take_succ_cons] at h2
        exact h4 h2
theorem rspec_dotted (neg : Bool) (p n : Nat) : rspec neg (dotted p (padz p (dd n))) = some (mkRat (sg neg n) (10 ^ p)) := by
  obtain ⟨hall, hval⟩ := padz_all p n
  have hl := padz_length p (dd n)
  have hfr := padz_front p n
  unfold dotted
  by_cases h0 : 0 < p
  · rw [if_pos h0]
    generalize hP : padz p (dd n) = P at *
    have ha : (P.take (P.length - p)).all dgt = true := by
      rw [List.all_eq_true]
      intro x hx
      exact List.all_eq_true.1 hall x (List.mem_of_mem_take hx)
    have hb : (P.drop (P.length - p)).all dgt = true := by
      rw [List.all_eq_true]
      intro x hx
      exact List.all_eq_true.1 hall x (List.mem_of_mem_drop hx)
    have hbl : (P.drop (P.length - p)).length = p := by rw [List.length_drop]; omega
    have hsp := takeWhile_append (p := dgt) (c := 46) (m := P.drop (P.length - p)) d46 ha
    unfold rspec
    rw [hsp.1, hsp.2, hfr]
    simp only
    rw [if_neg (by decide), if_neg (by decide), if_neg (by intro h; rw [h] at hbl; simp at hbl; omega), if_pos hb, hbl]
    have hv := dval_append (P.take (P.length - p)) _ (P.drop (P.length - p)) rfl
    rw [List.take_append_drop, hval, hbl] at hv
    rw [← hv]
  · obtain rfl : p = 0 := by omega
    rw [if_neg h0]
    have hp : padz 0 (dd n) = dd n := by
      unfold padz
      have := List.length_pos_iff.2 (dd_ne n)
      rw [if_neg (by omega)]
    rw [hp]
    have hw := takeWhile_all (dd_all n)
    unfold rspec
    rw [hw.1, hw.2, pn_dd]

theorem dotted_head (p n : Nat) : nthD 0 (dotted p (padz p (dd n))) 0 ≠ 45 := by
  obtain ⟨hall, _⟩ := padz_all p n
  have hl := padz_length p (dd n)
  have key : ∀ (x : Int) (xs : List Int), padz p (dd n) = x :: xs → x ≠ 45 := by
    intro x xs h
    have := dgt_range (List.all_eq_true.1 hall x (by rw [h]; simp))
    omega
  cases hP : padz p (dd n) with
  | nil => rw [hP] at hl; simp at hl
  | cons x xs =>
    have := key x xs hP
    unfold dotted
    split
    · rw [hP] at hl
      obtain ⟨m, hm⟩ : ∃ m, (x :: xs).length - p = m + 1 := ⟨(x :: xs).length - p - 1, by omega⟩
      rw [hm, List.take_succ_cons]
      exact this
    · exact this

theorem dtxt_read (neg : Bool) (Q p : Nat) : pspec (sgn0 (dtxt neg Q p)) (body (dtxt neg Q p)) = some (mkRat (sg neg Q) (10 ^ p)) := by
  rw [specs]
  unfold dtxt
  rw [bs_txt]
  by_cases h : neg = true ∧ 0 < Q
  · rw [if_pos h]
    have e1 : sgn0 (45 :: dotted p (padz p (dd Q))) = true := by
      unfold sgn0
      exact decide_eq_true ⟨rfl, by simp⟩
    have e2 : body (45 :: dotted p (padz p (dd Q))) = dotted p (padz p (dd Q)) := by
      unfold body
      rw [e1]
      rfl
    rw [e1, e2, rspec_dotted, h.1]
  · rw [if_neg h]
    have e1 : sgn0 (dotted p (padz p (dd Q))) = false := by
      unfold sgn0
      exact decide_eq_false (fun h => dotted_head p Q h.1)
    have e2 : body (dotted p (padz p (dd Q))) = dotted p (padz p (dd Q)) := by
      unfold body
      rw [e1]
      rfl
    rw [e1, e2, rspec_dotted]
    congr 2
    unfold sg
    cases neg with
    | false => rfl
    | true =>
      have : Q = 0 := by
        rcases Nat.eq_zero_or_pos Q with h2 | h2
        · exact h2
        · exact absurd ⟨rfl, h2⟩ h
      subst this
      rfl

theorem padz_snoc (p n : Nat) : ∃ l, padz p (dd n) = l ++ [48 + ((n % 10 : Nat) : Int)] ∧ p ≤ l.length := by
  have hl := padz_length p (dd n)
  obtain ⟨l, h, _⟩ := dd_snoc n
  have key : ∃ l, padz p (dd n) = l ++ [48 + ((n % 10 : Nat) : Int)] := by
    unfold padz
    rw [h]
    split
    · exact ⟨_, (List.append_assoc _ _ _).symm⟩
    · exact ⟨_, rfl⟩
  obtain ⟨m, hm⟩ := key
  refine ⟨m, hm, ?_⟩
  rw [hm, List.length_append, List.length_singleton] at hl
  omega
theorem dtxt_snoc (neg : Bool) (Q p : Nat) : ∃ l, dtxt neg Q p = l ++ [48 + ((Q % 10 : Nat) : Int)] := by
  have key : ∃ l, dotted p (padz p (dd Q)) = l ++ [48 + ((Q % 10 : Nat) : Int)] := by
    obtain ⟨l, h, hl⟩ := padz_snoc p Q
    unfold dotted
    rw [h]
    split
    · rename_i h0
      have : (l ++ [48 + ((Q % 10 : Nat) : Int)]).length - p ≤ l.length := by rw [List.length_append, List.length_singleton]; omega
      rw [List.drop_append_of_le_length this]
      exact ⟨_ ++ 46 :: _, by rw [List.append_assoc]; rfl⟩
    · exact ⟨l, rfl⟩
  obtain ⟨l, h⟩ := key
  unfold dtxt
  rw [bs_txt, h]
  split
  · exact ⟨45 :: l, rfl⟩
  · exact ⟨l, rfl⟩
theorem dtxt_size (neg : Bool) (Q p : Nat) : (dtxt neg Q p).length ≤ 10 * L Q + p + 4 := by
  have h1 := dd_size Q
  have h2 : (padz p (dd Q)).length ≤ 10 * L Q + p + 2 := by
    unfold padz
    split
    · rw [List.length_append, List.length_replicate]; omega
    · omega
  have h3 : (dotted p (padz p (dd Q))).length ≤ (padz p (dd Q)).length + 1 := by
    unfold dotted
    split
    · rw [List.length_append, List.length_take, List.length_cons, List.length_drop]; omega
    · omega
  unfold dtxt
  rw [bs_txt]
  split
  · rw [List.length_cons]; omega
  · omega

/-! ### The reference's power -/
theorem and1_i64 {x : Nat} (hx : x < 9223372036854775808) : bitsI .and .i64 (x : Int) 1 = ((x % 2 : Nat) : Int) := by
  unfold bitsI
  have e : (BitVec.ofInt IntKind.i64.bits (x : Int) &&& BitVec.ofInt IntKind.i64.bits 1).toNat = x % 2 := by
    have e1 : IntKind.i64.bits = 64 := rfl
    rw [e1, BitVec.toNat_and]
    have e2 : (BitVec.ofInt 64 (x : Int)).toNat = x := by
      rw [BitVec.toNat_ofInt]
      have : ((x : Int) % ((2 ^ 64 : Nat) : Int)).toNat = x := by omega
      exact this
    have e3 : (BitVec.ofInt 64 1).toNat = 1 := by decide
    rw [e2, e3]
    exact Nat.and_one_is_mod x
  show IntKind.i64.wrap (((BitVec.ofInt IntKind.i64.bits (x : Int) &&& BitVec.ofInt IntKind.i64.bits 1).toNat : Nat) : Int) = _
  rw [e, wrap_i64 (by omega) (by omega)]

theorem rpow_p0 (n : Nat) (hn : n ≤ 4096) : ∀ i : Nat, i ≤ 13 → Ev (fun k => ref01_Pow.p0 k [10] (n : Int) (lim (10 ^ (n / 2 ^ i))) ((i : Int) - 1)) (lim (10 ^ n), (0 : Int)) := by
  intro i
  induction i with
  | zero =>
    intro _
    refine Ev.turn (fun k => ref01_Pow.p0_succ k _ _ _ _) ?_
    unfold ref01_Pow.e0
    have l := L_ten n
    have h1 : Nt 5000 (lim (10 ^ (n / 2 ^ 0))) (10 ^ n) := by
      rw [Nat.pow_zero, Nat.div_one]
      exact Nt.of (by omega)
    exact Ev.fls (by simp) (Ev.bind (h1.rNorm (by omega)) Ev.pure)
  | succ i ih =>
    intro hi
    have ih' := ih (by omega)
    have hs := half_step n i
    have hle : n / 2 ^ (i + 1) ≤ n := Nat.div_le_self _ _
    have l := L_ten (n / 2 ^ (i + 1))
    have h1 : Nt 20000 (lim (10 ^ (n / 2 ^ (i + 1)))) (10 ^ (n / 2 ^ (i + 1))) := Nt.of (by omega)
    have h10 : Nt 20000 [10] 10 := (Nt.one (by simp [B])).mono (by omega)
    have hm := h1.rmul h1 (by omega)
    rw [← Nat.pow_add] at hm
    have l2 := L_ten (n / 2 ^ (i + 1) + n / 2 ^ (i + 1))
    have h2 : Nt 20000 (lim (10 ^ (n / 2 ^ (i + 1) + n / 2 ^ (i + 1)))) (10 ^ (n / 2 ^ (i + 1) + n / 2 ^ (i + 1))) := Nt.of (by omega)
    have hm2 := h2.rmul h10 (by omega)
    rw [← Nat.pow_succ] at hm2
    have e0 : ((i + 1 : Nat) : Int) - 1 = (i : Int) := by omega
    have e1 : IntKind.u64.wrap (i : Int) = (i : Int) := wrap_u64_id (by omega) (by omega)
    have e2 : Int.fdiv (n : Int) (2 ^ min i 64) = ((n / 2 ^ i : Nat) : Int) := by
      rw [Nat.min_eq_left (by omega), Int.fdiv_eq_ediv_of_nonneg _ (Int.le_of_lt (Int.pow_pos (by omega))), Int.natCast_ediv, Int.natCast_pow]; rfl
    have hlt : n / 2 ^ i ≤ n := Nat.div_le_self _ _
    have p13 : ∀ m, m = n / 2 ^ i → Ev (fun k => ref01_Pow.p13 k [10] (n : Int) (lim (10 ^ m)) (i : Int)) (lim (10 ^ n), (0 : Int)) := by
      intro m hm
      subst hm
      refine Ev.turn (fun k => ref01_Pow.p13_succ k _ _ _ _) ?_
      unfold ref01_Pow.e13
      have e3 : IntKind.i64.wrap ((i : Int) - 1) = (i : Int) - 1 := wrap_i64 (by omega) (by omega)
      rw [e3]
      exact ih'
    refine Ev.turn (fun k => ref01_Pow.p0_succ k _ _ _ _) ?_
    unfold ref01_Pow.e0
    simp only [e0, e1, Int.toNat_natCast, e2]
    rw [and1_i64 (by omega)]
    refine Ev.tru (dec_t (by omega)) (Ev.bind hm (Ev.fls (dec_f (by omega)) ?_))
    have hb : n / 2 ^ i % 2 = (n.testBit i).toNat := by rw [hs]; cases n.testBit i <;> simp <;> omega
    cases hbit : n.testBit i with
    | true =>
      rw [hbit] at hs hb
      simp only [Bool.toNat_true] at hs hb
      refine Ev.tru (dec_t (by omega)) (Ev.bind hm2 (p13 _ (by omega)))
    | false =>
      rw [hbit] at hs hb
      simp only [Bool.toNat_false] at hs hb
      exact Ev.fls (dec_f (by omega)) (p13 _ (by omega))

theorem rpow_ev {n : Nat} (hn : n ≤ 4096) : Ev (fun k => ref01_Pow.f k [10] (n : Int)) (lim (10 ^ n), (0 : Int)) := by
  have h := rpow_p0 n hn 13 (by omega)
  have e : n / 2 ^ 13 = 0 := Nat.div_eq_of_lt (by omega)
  rw [e, Nat.pow_zero, lim_one] at h
  unfold ref01_Pow.f ref01_Pow.e
  exact Ev.fls (dec_f (by omega)) (Ev.fls (dec_f (by omega)) h)

/-! ### The law -/
theorem round_near (z : Int) {d : Nat} (hd : d ≠ 0) {m : Int} (hm : m = if z < 0 then -(rq z.natAbs d : Int) else (rq z.natAbs d : Int)) :
    -(d : Int) ≤ 2 * (m * d - z) ∧ 2 * (m * d - z) ≤ d ∧ ((2 * (m * d - z) = d ∨ 2 * (m * d - z) = -(d : Int)) → rq z.natAbs d % 2 = 0) := by
  have h1 := Nat.div_add_mod z.natAbs d
  have h2 := Nat.mod_lt z.natAbs (by omega : 0 < d)
  unfold rq at *
  generalize hq : z.natAbs / d = q at *
  generalize hr : z.natAbs % d = r at *
  have h3 : ((d * q : Nat) : Int) = (d : Int) * (q : Int) := Int.natCast_mul _ _
  have hc0 : (q : Int) * d = (d : Int) * q := Int.mul_comm _ _
  have hc1 : ((q + 1 : Nat) : Int) * d = (d : Int) * q + d := by rw [Int.natCast_add, Int.add_mul, hc0]; omega
  by_cases hc : d < 2 * r ∨ (2 * r = d ∧ q % 2 = 1)
  · rw [if_pos hc] at hm ⊢
    by_cases hz : z < 0
    · rw [if_pos hz] at hm
      rw [hm, Int.neg_mul, hc1]
      omega
    · rw [if_neg hz] at hm
      rw [hm, hc1]
      omega
  · rw [if_neg hc] at hm ⊢
    by_cases hz : z < 0
    · rw [if_pos hz] at hm
      rw [hm, Int.neg_mul, hc0]
      omega
    · rw [if_neg hz] at hm
      rw [hm, hc0]
      omega

theorem mkRat_le_half {e : Int} {d : Nat} (hd : d ≠ 0) : (mkRat e d ≤ mkRat 1 2 ↔ 2 * e ≤ d) ∧ (mkRat e d = mkRat 1 2 ↔ 2 * e = d) := by
  constructor
  · rw [← Rat.divInt_ofNat, ← Rat.divInt_ofNat, Rat.le_iff_sub_nonneg, Rat.divInt_sub_divInt _ _ (by omega) (by omega), Rat.divInt_nonneg_iff_of_pos_right (Int.mul_pos (by omega) (by omega))]
    omega
  · rw [Rat.mkRat_eq_iff hd (by omega)]
    omega

variable {M : Nat} {r : RR} {q : Rat}

theorem Rt.num_le (h : Rt M r q) : LZ q.num ≤ M ∧ L q.den ≤ max M 1 := by
  have h1 := h.zt.LZ
  have h2 := h.nt.L
  rw [← h.val]
  unfold Qv
  rw [Rat.num_mkRat, Rat.den_mkRat]
  split
  · exact ⟨by rw [LZ_zero]; omega, by rw [L_one]; omega⟩
  · exact ⟨Nat.le_trans (L_mono (Int.natAbs_ediv_le_natAbs _ _)) h1, by have := L_div (V r.2).toNat ((V r.2).toNat.gcd (Zv r.1).natAbs); omega⟩

theorem off_eq (q : Rat) (m : Int) (p : Nat) : (mkRat m (10 ^ p) - q) * (((10 ^ p : Nat) : Int) : Rat) = mkRat (m * q.den - q.num * ((10 ^ p : Nat) : Int)) q.den := by
  have hk : (10 ^ p : Nat) ≠ 0 := by have : 0 < 10 ^ p := Nat.pow_pos (by omega); omega
  rw [Rat.sub_eq_add_neg, Rat.add_mul, Rat.neg_mul, ← Rat.sub_eq_add_neg, mul_int_eq q, ← int_sub_mkRat _ _ q.den_nz]
  congr 1
  have e : (((10 ^ p : Nat) : Int) : Rat) = mkRat ((10 ^ p : Nat) : Int) 1 := (Rat.mkRat_self (((10 ^ p : Nat) : Int) : Rat)).symm
  have e2 : (m : Rat) = mkRat m 1 := (Rat.mkRat_self (m : Rat)).symm
  rw [e, e2, Rat.mkRat_mul_mkRat, Rat.mkRat_eq_iff (by omega) (by omega)]
  rw [Nat.mul_one]
  omega

theorem rounds_p7 : Ev (fun k => law03_RatioRounds.p7 k (ByteArray.mk #[]) 32) true := by
  refine Ev.turn (fun k => law03_RatioRounds.p7_succ k _ _) ?_
  unfold law03_RatioRounds.e7
  exact Ev.tru (by simp) (Ev.tru (by rw [beq_bs]; simp) (Ev.bind half_ev Ev.pure))

theorem law_rounds_ev (h : Rt M r q) (h1 : 1 ≤ M) (hM : M ≤ 1048576) (n : Int) : Ev (fun k => law03_RatioRounds.f k r n) true := by
  unfold law03_RatioRounds.f law03_RatioRounds.e
  refine Ev.bind (h.twin (by omega)) ?_
  by_cases hn : badPl n
  · refine Ev.bind (dec_bad hn) ?_
    by_cases h0 : n < 0
    · exact Ev.tru (dec_t h0) rounds_p7
    · exact Ev.fls (dec_f h0) (Ev.tru (dec_t (by unfold badPl at hn; omega)) rounds_p7)
  · obtain ⟨p, rfl⟩ : ∃ p : Nat, n = (p : Int) := ⟨n.toNat, by unfold badPl at hn; omega⟩
    have hp : p ≤ 1000 := by unfold badPl at hn; omega
    obtain ⟨s, s1, s2⟩ := h.decimal h1 (by omega) hp
    have hnum := h.num_le.1
    have hlq := h.LQ h1
    have lt := L_ten p
    have hdz := q.den_nz
    obtain ⟨Q, hQ⟩ : ∃ Q, Q = rq (q.num.natAbs * 10 ^ p) q.den := ⟨_, rfl⟩
    rw [← hQ] at s2
    have hLQ : L Q ≤ M + 1003 := by
      have e1 := L_rq (q.num.natAbs * 10 ^ p) q.den
      have e2 := L_mul q.num.natAbs (10 ^ p)
      unfold LZ at hnum
      rw [hQ]; omega
    have hsz := dtxt_size (decide (q.num < 0)) Q p
    rw [← s2, bs_length] at hsz
    have hpar := ratio_Parse_ev s (N := 16777216) (Nat.le_refl _) (by omega)
    rw [s2, dtxt_read] at hpar
    -- the number that is read
    obtain ⟨z, hz⟩ : ∃ z, z = q.num * ((10 ^ p : Nat) : Int) := ⟨_, rfl⟩
    have hpow : 0 < 10 ^ p := Nat.pow_pos (by omega)
    have hzn : z.natAbs = q.num.natAbs * 10 ^ p := by rw [hz, Int.natAbs_mul, Int.natAbs_natCast]
    have hzneg : z < 0 ↔ q.num < 0 := by
      rw [hz]
      constructor
      · intro h2
        rcases Int.lt_or_le q.num 0 with h3 | h3
        · exact h3
        · exact absurd (Int.mul_nonneg h3 (by omega : (0 : Int) ≤ ((10 ^ p : Nat) : Int))) (by omega)
      · intro h2
        exact Int.mul_neg_of_neg_of_pos h2 (by omega)
    obtain ⟨m, hm⟩ : ∃ m, m = sg (decide (q.num < 0)) Q := ⟨_, rfl⟩
    rw [← hm] at hpar
    have hm2 : m = if z < 0 then -(rq z.natAbs q.den : Int) else (rq z.natAbs q.den : Int) := by
      rw [hm, hzn, ← hQ]
      unfold sg
      by_cases h2 : z < 0
      · rw [if_pos h2, dec_t (hzneg.1 h2), if_pos rfl]
      · rw [if_neg h2, dec_f (fun h => h2 (hzneg.2 h)), if_neg (by simp)]
    have near := round_near z hdz hm2
    rw [hzn, ← hQ] at near
    have hLm : LZ m ≤ M + 1003 := by rw [hm, LZ_sg]; exact hLQ
    have lx := LQ_mkRat m (10 ^ p)
    have rx : Rt (3 * M + 5000) (rat (mkRat m (10 ^ p))) (mkRat m (10 ^ p)) := Rt.of (by omega)
    have lsub := LQ_sub (mkRat m (10 ^ p)) q
    have rsub : Rt (20 * M + 50000) (rat (mkRat m (10 ^ p) - q)) (mkRat m (10 ^ p) - q) := Rt.of (by omega)
    have zt := Zt.pos (Nt.of (M := 20 * M + 50000) (n := 10 ^ p) (by omega))
    have rt : Rt (20 * M + 50000) (rat (((10 ^ p : Nat) : Int) : Rat)) (((10 ^ p : Nat) : Int) : Rat) := Rt.of (by rw [LQ_int, LZ_nat]; omega)
    have lmul := LQ_mul (mkRat m (10 ^ p) - q) (((10 ^ p : Nat) : Int) : Rat)
    rw [LQ_int, LZ_nat] at lmul
    have hmul := rsub.rmul rt (by omega) (by omega)
    have hoff := off_eq q m p
    rw [← hz] at hoff
    rw [hoff] at hmul lmul
    have roff : Rt (30 * M + 60000) (rat (mkRat (m * q.den - z) q.den)) (mkRat (m * q.den - z) q.den) := Rt.of (by omega)
    have rabs : Rt (30 * M + 60000) (rat (mkRat (m * q.den - z) q.den).abs) (mkRat (m * q.den - z) q.den).abs := Rt.of (by rw [LQ_abs]; omega)
    have hh : Rt (30 * M + 60000) ((false, [1]), [2]) (mkRat 1 2) := half_rt (by omega)
    have hlen : s.size = (bs s).length := (bs_length s).symm
    obtain ⟨l, hl⟩ := dtxt_snoc (decide (q.num < 0)) Q p
    rw [s2, hl, List.length_append, List.length_singleton] at hlen
    have e1 : IntKind.i64.wrap ((s.size : Int) - 1) = (l.length : Int) := by rw [wrap_i64 (by omega) (by omega)]; omega
    have e2 : btI s (l.length : Int) = 48 + ((Q % 10 : Nat) : Int) := by
      rw [bs_btI, s2, hl, nthD_eq, List.getD_eq_getElem?_getD]
      simp
    refine Ev.bind s1 (Ev.fls (dec_f (by omega)) (Ev.fls (dec_f (by omega)) (Ev.bind hpar (Ev.fls (by simp) (Ev.fls rfl (Ev.bind half_ev (Ev.fls rfl (Ev.bind (rpow_ev (by omega)) (Ev.bind ((rx.rsub (h.mono (by omega)) (by omega) (by omega))) (Ev.bind (zt.rint (by omega) (by omega)) (Ev.bind hmul (Ev.bind (roff.rabs (by omega) (by omega)) (Ev.bind (rabs.rcmp hh (by omega) (by omega)) ?_)))))))))))))
    simp only [e1, e2]
    refine Ev.tru (by simp; omega) ?_
    have b1 := (mkRat_le_half (e := m * q.den - z) hdz).1
    have b2 := (mkRat_le_half (e := m * q.den - z) hdz).2
    have b3 := (mkRat_le_half (e := -(m * q.den - z)) hdz).1
    have b4 := (mkRat_le_half (e := -(m * q.den - z)) hdz).2
    rw [← Rat.neg_mkRat] at b3 b4
    generalize hw : mkRat (m * q.den - z) q.den = w at *
    have hle : w.abs ≤ mkRat 1 2 := by
      rcases Rat.le_total (a := 0) (b := w) with h2 | h2
      · rw [Rat.abs_of_nonneg h2]; exact b1.2 near.2.1
      · rw [Rat.abs_of_nonpos h2]; exact b3.2 (by omega)
    rcases Rat.le_iff_lt_or_eq.1 hle with hlt | heq
    · exact Ev.tru (dec_t (qs_neg.2 hlt)) Ev.pure
    · have hev : Q % 2 = 0 := by
        apply near.2.2
        rcases Rat.le_total (a := 0) (b := w) with h2 | h2
        · rw [Rat.abs_of_nonneg h2] at heq; left; exact b2.1 heq
        · rw [Rat.abs_of_nonpos h2] at heq; right; have := b4.1 heq; omega
      refine Ev.fls (dec_f (by rw [qs_eq heq]; omega)) (Ev.tru (dec_t (qs_eq heq)) (Ev.eq ?_))
      have e3 : IntKind.u8.wrap (48 + ((Q % 10 : Nat) : Int) - 48) = ((Q % 10 : Nat) : Int) := by
        have e4 : ∀ x : Int, IntKind.u8.wrap x = x % 256 := fun x => by simp [IntKind.wrap, IntKind.signed, IntKind.bits]
        rw [e4]; omega
      rw [e3, dec_t]
      rw [Int.tmod_eq_emod_of_nonneg (by omega)]
      omega

theorem decimals_math (x : TD [tyRat, .int .i64]) (hw : wfDs (encT [tyRat, .int .i64] x)) (hm : massDs (encT [tyRat, .int .i64] x) ≤ 1048576) : ∃ k, law03_RatioDecimals.f k x.1 x.2 = some true := by
  obtain ⟨h1, _⟩ := hw
  have hm' : tyRat.mass x.1 + (1 + 0) ≤ 1048576 := hm
  exact (law_decimals_ev (rat_rt (r := x.1) h1 (M := 1048576) (by omega)) (by omega) (by omega) x.2).some
theorem rounds_math (x : TD [tyRat, .int .i64]) (hw : wfDs (encT [tyRat, .int .i64] x)) (hm : massDs (encT [tyRat, .int .i64] x) ≤ 1048576) : ∃ k, law03_RatioRounds.f k x.1 x.2 = some true := by
  obtain ⟨h1, _⟩ := hw
  have hm' : tyRat.mass x.1 + (1 + 0) ≤ 1048576 := hm
  exact (law_rounds_ev (rat_rt (r := x.1) h1 (M := 1048576) (by omega)) (by omega) (by omega) x.2).some

end Go.FK
