import Derived.Test.YtfalcbkhleobdaaGreatDoorM3
import Derived.Test.YtfalcbkhleobdaaGreatDoorM4

/- The plain law of the second Ratio seat: texts of numbers. -/
namespace Go.FK

theorem drop_setN_at {v : Int} {o : List Int} {j : Nat} (h : j < o.length) : (setN v o j).drop j = v :: o.drop (j + 1) := by
  have hl : j < (setN v o j).length := by rw [length_setN]; exact h
  rw [List.drop_eq_getElem_cons hl, drop_setN (Nat.lt_succ_self j)]
  congr 1
  have := nthD_setN 0 v o j j
  rw [if_pos ⟨rfl, h⟩, nthD_eq, List.getD_eq_getElem?_getD, List.getElem?_eq_getElem hl] at this
  simpa using this

def chr (n : Nat) : Int := btI str_9f9f5111f7 (n : Int)
theorem tab_len : str_9f9f5111f7.size = 16 := by decide +kernel
/-- The digits, the lowest first. -/
def dg (n : Nat) : List Int := if h : n = 0 then [] else chr (n % 10) :: dg (n / 10)
termination_by n
decreasing_by omega
theorem dg_zero : dg 0 = [] := by rw [dg]; simp
theorem dg_pos {n : Nat} (h : n ≠ 0) : dg n = chr (n % 10) :: dg (n / 10) := by rw [dg]; simp [h]
def fin (l : List Int) : ByteArray := if l = [] then ByteArray.mk #[48] else ofB l.reverse
def txt (n : Nat) : ByteArray := fin (dg n)

theorem text_p4 (a : List Int) (hl : a.length ≤ 70368744177664) : ∀ (m i : Nat) (o : List Int), m + i = a.length → o.length = a.length → o.drop (a.length - i) = (a.take i).reverse → Ev (fun k => nat_Text.p4 k a o (a.length : Int) (i : Int)) (ofB a.reverse, (0 : Int)) := by
  intro m
  induction m with
  | zero =>
    intro i o hi ho hd
    refine Ev.turn (fun k => nat_Text.p4_succ k _ _ _ _) ?_
    unfold nat_Text.e4
    refine Ev.fls (by simp; omega) ?_
    have e : i = a.length := by omega
    subst e
    rw [Nat.sub_self, List.drop_zero, List.take_length] at hd
    rw [hd]
    exact Ev.pure
  | succ m ih =>
    intro i o hi ho hd
    refine Ev.turn (fun k => nat_Text.p4_succ k _ _ _ _) ?_
    unfold nat_Text.e4
    have e1 : IntKind.i64.wrap (IntKind.i64.wrap ((a.length : Int) - 1) - (i : Int)) = ((a.length - 1 - i : Nat) : Int) := by
      rw [wrap_i64 (n := (a.length : Int) - 1) (by omega) (by omega), wrap_i64 (by omega) (by omega)]; omega
    have e2 : IntKind.i64.wrap ((i : Int) + 1) = ((i + 1 : Nat) : Int) := by rw [wrap_i64 (by omega) (by omega)]; omega
    simp only [e1, e2, Int.toNat_natCast]
    refine Ev.tru (by simp; omega) (Ev.tru (by simp; omega) (Ev.tru (by simp; omega) ?_))
    refine ih (i + 1) _ (by omega) (by rw [length_setN]; exact ho) ?_
    have e3 : a.length - (i + 1) = a.length - 1 - i := by omega
    have e4 : a.length - 1 - i + 1 = a.length - i := by omega
    rw [e3, drop_setN_at (by omega), e4, hd, take_succ_get (by omega), List.reverse_append]
    rfl

theorem text_p0 {M : Nat} (hM : M ≤ 17592186044416) : ∀ (t n : Nat) (acc : List Int), n < 2 ^ t → acc.length + t ≤ 1099511627776 → L n ≤ M → Ev (fun k => nat_Text.p0 k acc 10 (lim n)) (fin (acc ++ dg n), (0 : Int)) := by
  intro t
  induction t with
  | zero =>
    intro n acc hn hl _
    obtain rfl : n = 0 := by simpa using hn
    refine Ev.turn (fun k => nat_Text.p0_succ k _ _ _) ?_
    unfold nat_Text.e0
    rw [lim_zero, dg_zero, List.append_nil]
    refine Ev.fls (by simp) ?_
    by_cases h : acc = []
    · subst h; exact Ev.tru (by simp) (by unfold fin; rw [if_pos rfl]; exact Ev.pure)
    · have : acc.length ≠ 0 := fun h' => h (List.length_eq_zero_iff.1 h')
      unfold fin
      rw [if_neg h]
      refine Ev.fls (by simp; exact h) (Ev.tru (by simp; omega) ?_)
      exact text_p4 acc (by omega) acc.length 0 _ (by omega) (by simp) (by simp)
  | succ t ih =>
    intro n acc hn hl hL
    by_cases h0 : n = 0
    · subst h0
      exact ih 0 acc (Nat.two_pow_pos t) (by omega) hL
    · refine Ev.turn (fun k => nat_Text.p0_succ k _ _ _) ?_
      unfold nat_Text.e0
      have hp := L_pos h0
      have hlen : (lim n).length = L n := rfl
      have ew : IntKind.u32.wrap 10 = ((10 : Nat) : Int) := by decide
      have hnt : Nt M (lim n) n := Nt.of hL
      obtain ⟨q, s1, s2⟩ := hnt.short hM (b := 10) (by omega) (by simp [B])
      have hd : n / 10 < 2 ^ t := by rw [Nat.pow_succ] at hn; omega
      rw [ew]
      refine Ev.tru (by simp; omega) (Ev.bind s1 (Ev.bind (s2.trim (by omega)) ?_))
      have hr : n % 10 < 10 := Nat.mod_lt _ (by omega)
      refine Ev.tru (by rw [tab_len]; simp; omega) (Ev.tru (by simp only [List.length_cons, List.length_nil, Bool.and_eq_true, Nat.ble_eq]; omega) ?_)
      have := ih (n / 10) (acc ++ [chr (n % 10)]) hd (by simp; omega) (Nat.le_trans (L_mono (Nat.div_le_self _ _)) hL)
      rw [List.append_assoc, List.singleton_append, ← dg_pos h0] at this
      exact this

theorem lt_two_pow_L (n : Nat) : n < 2 ^ (32 * L n) := by
  have := L_lt n
  rwa [show (4294967296 : Nat) = 2 ^ 32 from rfl, ← Nat.pow_mul] at this

theorem Nt.text {M n : Nat} {a : List Int} (h : Nt M a n) (hM : M ≤ 34359738368) : Ev (fun k => nat_Text.f k a 10) (txt n, (0 : Int)) := by
  unfold nat_Text.f nat_Text.e
  have hL := h.L
  refine Ev.fls (by simp) (Ev.fls (by simp) (Ev.bind (h.own (by omega)) ?_))
  exact text_p0 (M := M) (by omega) (32 * FK.L n) n [] (lt_two_pow_L n) (by simp; omega) hL

/-! ### The reference's -/
theorem rtenth_p0 (a : List Int) (b : Int) (ha : Lim a) (hl : a.length ≤ 17592186044416) (hb : 0 < b ∧ b < B) : ∀ (n : Nat) (q : List Int) (r : Int), n ≤ a.length → q.length = a.length → Lim q → (∀ j, j < n → nthD 0 q j = 0) → 0 ≤ r ∧ r < b →
    V q * b + B ^ n * r + V (a.take n) = V a → Ev (fun k => ref01_tenth.p0 k q a b r ((n : Int) - 1)) (lim (V a / b).toNat, V a % b) := by
  intro n
  induction n with
  | zero =>
    intro q r hn hq hlq hz hr hV
    simp only [Int.pow_zero, Int.one_mul, List.take_zero, V, Int.add_zero] at hV
    have h1 : V a / b = V q ∧ V a % b = r := by
      rw [Int.ediv_emod_unique (by omega)]
      refine ⟨?_, hr.1, hr.2⟩
      rw [← hV, Int.mul_comm]; omega
    rw [h1.1, h1.2]
    refine Ev.turn (fun k => ref01_tenth.p0_succ k _ _ _ _ _) ?_
    unfold ref01_tenth.e0
    have hq2 : Nt a.length q (V q).toNat := (Nt.mk' hlq).mono (by omega)
    have e1 : IntKind.i64.wrap r = r := wrap_i64 (by omega) (by simp only [B] at hb; omega)
    rw [e1]
    exact Ev.fls (by simp) (Ev.bind (hq2.rNorm (by omega)) Ev.pure)
  | succ n ih =>
    intro q r hn hq hlq hz hr hV
    have hx := ha.get' n
    have e1 : IntKind.i64.wrap ((n : Int) - 1) = (n : Int) - 1 := wrap_i64 (by omega) (by omega)
    have h0 : 0 ≤ r * B + nthD 0 a n := by simp only [B] at *; omega
    have h1 : r * B + nthD 0 a n < b * B := by
      have : (r + 1) * B ≤ b * B := Int.mul_le_mul_of_nonneg_right (by omega) (by simp [B])
      rw [Int.add_mul] at this
      omega
    have h2 : 0 ≤ (r * B + nthD 0 a n) / b := Int.ediv_nonneg h0 (by omega)
    have h3 : (r * B + nthD 0 a n) / b < B := Int.ediv_lt_of_lt_mul (by omega) (by have := Int.mul_comm b B; omega)
    have h4 := Int.emod_nonneg (r * B + nthD 0 a n) (show b ≠ 0 by omega)
    have h5 := Int.emod_lt_of_pos (r * B + nthD 0 a n) (show 0 < b by omega)
    have h6 := Int.emod_add_mul_ediv (r * B + nthD 0 a n) b
    have hV2 : V (setN ((r * B + nthD 0 a n) / b) q n) * b + B ^ n * ((r * B + nthD 0 a n) % b) + V (a.take n) = V a := by
      rw [V_setN _ _ _ (by omega), hz n (by omega)]
      rw [V_take_succ', Int.pow_succ] at hV
      generalize (r * B + nthD 0 a n) / b = d at *
      generalize (r * B + nthD 0 a n) % b = s at *
      grind
    have k1 := ih (setN ((r * B + nthD 0 a n) / b) q n) ((r * B + nthD 0 a n) % b) (by omega) (by rw [length_setN]; exact hq) (hlq.set ⟨h2, h3⟩)
      (fun j hj => by rw [nthD_setN, if_neg (by omega)]; exact hz j (by omega)) ⟨h4, h5⟩ hV2
    refine Ev.turn (fun k => ref01_tenth.p0_succ k _ _ _ _ _) ?_
    unfold ref01_tenth.e0
    have e0 : ((n + 1 : Nat) : Int) - 1 = (n : Int) := by omega
    have w1 : IntKind.u64.wrap b = b := wrap_u64_id (by omega) (by simp only [B] at *; omega)
    have w2 : IntKind.u64.wrap (nthD 0 a n) = nthD 0 a n := wrap_u64_id hx.1 (by simp only [B] at *; omega)
    have w3 := or_limbs (x := r) (y := nthD 0 a n) ⟨hr.1, by omega⟩ hx
    have w4 : (2 : Int) ^ 32 = 4294967296 := rfl
    rw [e0]
    simp only [Int.toNat_natCast, e1, w1, w2, w4, w3]
    rw [Int.tdiv_eq_ediv_of_nonneg h0, Int.tmod_eq_emod_of_nonneg h0, wrap_u64_id h2 (by simp only [B] at *; omega), wrap_u32_id h2 h3]
    refine Ev.tru (by simp) (Ev.tru (by simp; omega) (Ev.fls (by simp; omega) (Ev.tru (by simp; omega) (Ev.fls (by simp; omega) ?_))))
    exact k1

theorem Nt.tenth {M m : Nat} {a : List Int} {b : Nat} (ha : Nt M a m) (hM : M ≤ 17592186044416) (hb : 0 < b) (hb2 : (b : Int) < B) : Ev (fun k => ref01_tenth.f k a b) (FK.lim (m / b), ((m % b : Nat) : Int)) := by
  have la := ha.len
  have h1 := rtenth_p0 a b ha.lim (by omega) ⟨by omega, hb2⟩ a.length (List.replicate a.length 0) 0 (Nat.le_refl _) (by simp) (Lim_replicate_zero _)
    (fun j hj => by rw [nthD_eq, List.getD_eq_getElem?_getD]; by_cases h : j < a.length <;> simp [h]) (by omega) (by simp [V_replicate_zero])
  unfold ref01_tenth.f ref01_tenth.e
  have e1 : IntKind.i64.wrap ((a.length : Int) - 1) = (a.length : Int) - 1 := wrap_i64 (by omega) (by omega)
  rw [e1]
  simp only [Int.toNat_natCast]
  refine Ev.tru (by simp; omega) ?_
  rw [ha.val] at h1
  exact h1

theorem rtext_p4 (a : List Int) (hl : a.length ≤ 70368744177664) : ∀ (m i : Nat) (o : List Int), m + i = a.length → o.length = a.length → o.drop (a.length - i) = (a.take i).reverse → Ev (fun k => ref01_Text.p4 k a o (i : Int)) (ofB a.reverse, (0 : Int)) := by
  intro m
  induction m with
  | zero =>
    intro i o hi ho hd
    refine Ev.turn (fun k => ref01_Text.p4_succ k _ _ _) ?_
    unfold ref01_Text.e4
    refine Ev.fls (by simp; omega) ?_
    have e : i = a.length := by omega
    subst e
    rw [Nat.sub_self, List.drop_zero, List.take_length] at hd
    rw [hd]
    exact Ev.pure
  | succ m ih =>
    intro i o hi ho hd
    refine Ev.turn (fun k => ref01_Text.p4_succ k _ _ _) ?_
    unfold ref01_Text.e4
    have e1 : IntKind.i64.wrap (IntKind.i64.wrap ((a.length : Int) - 1) - (i : Int)) = ((a.length - 1 - i : Nat) : Int) := by
      rw [wrap_i64 (n := (a.length : Int) - 1) (by omega) (by omega), wrap_i64 (by omega) (by omega)]; omega
    have e2 : IntKind.i64.wrap ((i : Int) + 1) = ((i + 1 : Nat) : Int) := by rw [wrap_i64 (by omega) (by omega)]; omega
    simp only [e1, e2, Int.toNat_natCast]
    refine Ev.tru (by simp; omega) (Ev.tru (by simp; omega) (Ev.tru (by simp; omega) ?_))
    refine ih (i + 1) _ (by omega) (by rw [length_setN]; exact ho) ?_
    have e3 : a.length - (i + 1) = a.length - 1 - i := by omega
    have e4 : a.length - 1 - i + 1 = a.length - i := by omega
    rw [e3, drop_setN_at (by omega), e4, hd, take_succ_get (by omega), List.reverse_append]
    rfl

theorem rtext_p0 {M : Nat} (hM : M ≤ 17592186044416) : ∀ (t n : Nat) (acc : List Int), n < 2 ^ t → acc.length + t ≤ 1099511627776 → L n ≤ M → Ev (fun k => ref01_Text.p0 k acc (lim n) 10) (fin (acc ++ dg n), (0 : Int)) := by
  intro t
  induction t with
  | zero =>
    intro n acc hn hl _
    obtain rfl : n = 0 := by simpa using hn
    refine Ev.turn (fun k => ref01_Text.p0_succ k _ _ _) ?_
    unfold ref01_Text.e0
    rw [lim_zero, dg_zero, List.append_nil]
    refine Ev.fls (by simp) ?_
    by_cases h : acc = []
    · subst h; exact Ev.tru (by simp) (by unfold fin; rw [if_pos rfl]; exact Ev.pure)
    · have : acc.length ≠ 0 := fun h' => h (List.length_eq_zero_iff.1 h')
      unfold fin
      rw [if_neg h]
      refine Ev.fls (by simp; exact h) (Ev.tru (by simp; omega) ?_)
      exact rtext_p4 acc (by omega) acc.length 0 _ (by omega) (by simp) (by simp)
  | succ t ih =>
    intro n acc hn hl hL
    by_cases h0 : n = 0
    · subst h0
      exact ih 0 acc (Nat.two_pow_pos t) (by omega) hL
    · refine Ev.turn (fun k => ref01_Text.p0_succ k _ _ _) ?_
      unfold ref01_Text.e0
      have hp := L_pos h0
      have hlen : (lim n).length = L n := rfl
      have hnt : Nt M (lim n) n := Nt.of hL
      have s1 := hnt.tenth hM (b := 10) (by omega) (by simp [B])
      have hd : n / 10 < 2 ^ t := by rw [Nat.pow_succ] at hn; omega
      refine Ev.tru (by simp; omega) (Ev.bind s1 ?_)
      have hr : n % 10 < 10 := Nat.mod_lt _ (by omega)
      refine Ev.tru (by rw [tab_len]; simp; omega) (Ev.tru (by simp only [List.length_cons, List.length_nil, Bool.and_eq_true, Nat.ble_eq]; omega) ?_)
      have := ih (n / 10) (acc ++ [chr (n % 10)]) hd (by simp; omega) (Nat.le_trans (L_mono (Nat.div_le_self _ _)) hL)
      rw [List.append_assoc, List.singleton_append, ← dg_pos h0] at this
      exact this

theorem Nt.rtext {M n : Nat} {a : List Int} (h : Nt M a n) (hM : M ≤ 34359738368) : Ev (fun k => ref01_Text.f k a 10) (txt n, (0 : Int)) := by
  unfold ref01_Text.f ref01_Text.e
  have hL := h.L
  refine Ev.fls (by simp) (Ev.fls (by simp) (Ev.bind (h.rNorm (by omega)) ?_))
  exact rtext_p0 (M := M) (by omega) (32 * FK.L n) n [] (lt_two_pow_L n) (by simp; omega) hL

end Go.FK


/- The plain law of the second Ratio seat: Texts. -/
namespace Go.FK

theorem ofB_foldl_size (l : List Int) : ∀ s : ByteArray, (l.foldl (fun s n => s.push (UInt8.ofNat n.toNat)) s).size = s.size + l.length := by
  induction l with
  | nil => intro s; rfl
  | cons x xs ih => intro s; rw [List.foldl_cons, ih, ByteArray.size_push, List.length_cons]; omega
theorem ofB_size (l : List Int) : (ofB l).size = l.length := by
  unfold ofB
  rw [ofB_foldl_size]
  show 0 + _ = _
  omega
theorem dg_length : ∀ (t n : Nat), n < 2 ^ t → (dg n).length ≤ t := by
  intro t
  induction t with
  | zero => intro n hn; obtain rfl : n = 0 := by simpa using hn
            rw [dg_zero]; simp
  | succ t ih =>
    intro n hn
    by_cases h : n = 0
    · subst h; rw [dg_zero]; simp
    · have := ih (n / 10) (by rw [Nat.pow_succ] at hn; omega)
      rw [dg_pos h, List.length_cons]; omega
theorem txt_size (n : Nat) : (txt n).size ≤ 32 * L n + 1 := by
  unfold txt fin
  split
  · show 1 ≤ _; omega
  · rw [ofB_size, List.length_reverse]
    have := dg_length _ n (lt_two_pow_L n)
    omega
theorem small_size {n : Nat} (h : n ≤ 1000000000000000) : decide ((n : Int) > IntKind.i64.max) = false := by
  have : IntKind.i64.max = 9223372036854775807 := by decide
  rw [this]
  simp; omega

theorem Nt.decimal {M n : Nat} {a : List Int} (h : Nt M a n) (hM : M ≤ 34359738368) : Ev (fun k => ratio_decimal.f k a) (txt n) := by
  unfold ratio_decimal.f ratio_decimal.e
  exact Ev.bind (h.text hM) Ev.pure
theorem Nt.digits {M n : Nat} {a : List Int} (h : Nt M a n) (hM : M ≤ 34359738368) : Ev (fun k => ref03_digits.f k a) (txt n) := by
  unfold ref03_digits.f ref03_digits.e
  exact Ev.bind (h.rtext hM) Ev.pure

def wtxt (z : Int) : ByteArray := if z < 0 then ByteArray.mk #[45] ++ txt z.natAbs else txt z.natAbs
theorem wtxt_size (z : Int) : (wtxt z).size ≤ 32 * LZ z + 2 := by
  have := txt_size z.natAbs
  unfold wtxt LZ
  split
  · rw [ByteArray.size_append]
    have e : (ByteArray.mk #[45]).size = 1 := rfl
    omega
  · omega

theorem Zt.text {M : Nat} {a : Bool × List Int} {z : Int} (h : Zt M a z) (hM : M ≤ 1099511627776 / 32) : Ev (fun k => whole_Text.f k a) (wtxt z) := by
  unfold whole_Text.f whole_Text.e
  have hs := txt_size z.natAbs
  have hL : L z.natAbs ≤ M := h.nt.L
  refine Ev.bind (h.nt.text (by omega)) (Ev.bind (h.sign (by omega)) ?_)
  unfold wtxt
  by_cases h0 : z < 0
  · rw [if_pos h0]
    have e : (ByteArray.mk #[45]).size = 1 := rfl
    exact Ev.tru (dec_t ((sign_neg_iff z).2 h0)) (Ev.fls (small_size (by simp only [e]; omega)) Ev.pure)
  · rw [if_neg h0]
    exact Ev.fls (dec_f (fun h => h0 ((sign_neg_iff z).1 h))) Ev.pure
theorem Zt.rtext {M : Nat} {a : Bool × List Int} {z : Int} (h : Zt M a z) (hM : M ≤ 1099511627776 / 32) : Ev (fun k => ref02_Text.f k a) (wtxt z) := by
  unfold ref02_Text.f ref02_Text.e
  have hs := txt_size z.natAbs
  have hL : L z.natAbs ≤ M := h.nt.L
  have hn : Nt M (FK.lim z.natAbs) z.natAbs := Nt.of hL
  refine Ev.bind (h.nt.rNorm (by omega)) (Ev.bind (hn.rtext (by omega)) (Ev.bind (h.rsign (by omega)) ?_))
  unfold wtxt
  by_cases h0 : z < 0
  · rw [if_pos h0]
    have e : (ByteArray.mk #[45]).size = 1 := rfl
    exact Ev.tru (dec_t ((sign_neg_iff z).2 h0)) (Ev.fls (small_size (by simp only [e]; omega)) Ev.pure)
  · rw [if_neg h0]
    exact Ev.fls (dec_f (fun h => h0 ((sign_neg_iff z).1 h))) Ev.pure

theorem cmp_one {M : Nat} (d : Nat) (hL : L d ≤ M) (h1 : 1 ≤ M) (hM : M ≤ 1000000000) : Ev (fun k => nat_Cmp.f k (lim d) [1]) (sgn d 1) := by
  have h : Nt M (lim d) d := Nt.of hL
  exact h.cmp (one_nt h1) (by omega)
theorem same_one (d : Nat) (hM : L d ≤ 1000000000) : Ev (fun k => ref01_Same.f k (lim d) [1]) (decide (d = 1)) := by
  have h := rSame_ev (lim d) [1] (by show L d ≤ _; omega)
  have e : decide (lim d = [1]) = decide (d = 1) := by
    apply decide_eq_decide.2
    constructor
    · intro h
      have := V_lim d
      rw [h] at this
      simp only [V] at this
      omega
    · intro h; subst h; exact lim_one
  rw [e] at h
  exact h

def qtxt (q : Rat) : ByteArray := if q.den = 1 then wtxt q.num else wtxt q.num ++ (ByteArray.mk #[47] ++ txt q.den)

variable {M : Nat} {r : RR} {q : Rat}

theorem Rt.text (h : Rt M r q) (h1 : 1 ≤ M) (hM : M ≤ 100000000) : Ev (fun k => ratio_Text.f k r) (qtxt q) := by
  unfold ratio_Text.f ratio_Text.e
  have l0 := h.LQ h1
  have l1 := LQ_num q
  have l2 := LQ_den q
  have s1 := txt_size q.den
  have s2 := wtxt_size q.num
  have hz : Zt (2 * M) (int q.num) q.num := Zt.of (by omega)
  have hd : Nt (2 * M) (lim q.den) q.den := Nt.of (by omega)
  have fin : ∀ b : ByteArray, Ev (fun k => ratio_Text.p11 k b) b := fun b => Ev.turn (fun k => ratio_Text.p11_succ k b) Ev.pure
  have e : (ByteArray.mk #[47]).size = 1 := rfl
  refine Ev.bind (h.norm (by omega)) (Ev.bind (hz.text (by omega)) (Ev.bind (cmp_one (M := 2 * M) q.den (by omega) (by omega) (by omega)) ?_))
  unfold qtxt
  by_cases h0 : q.den = 1
  · rw [if_pos h0]
    refine Ev.fls (by rw [dec_t (sgn_eq (by omega))]; rfl) (fin _)
  · rw [if_neg h0]
    refine Ev.tru (by rw [dec_f (fun h => h0 (by have := sgn_zero_iff.1 h; omega))]; rfl) ?_
    refine Ev.bind (hd.decimal (by omega)) (Ev.fls (small_size (by simp only [e]; omega)) (Ev.fls (small_size (by simp only [ByteArray.size_append, e]; omega)) (fin _)))

theorem Rt.rtext (h : Rt M r q) (h1 : 1 ≤ M) (hM : M ≤ 100000000) : Ev (fun k => ref03_Text.f k r) (qtxt q) := by
  unfold ref03_Text.f ref03_Text.e
  have l0 := h.LQ h1
  have l1 := LQ_num q
  have l2 := LQ_den q
  have s1 := txt_size q.den
  have s2 := wtxt_size q.num
  have hz : Zt (2 * M) (int q.num) q.num := Zt.of (by omega)
  have hd : Nt (2 * M) (lim q.den) q.den := Nt.of (by omega)
  have fin : ∀ b : ByteArray, Ev (fun k => ref03_Text.p11 k b) b := fun b => Ev.turn (fun k => ref03_Text.p11_succ k b) Ev.pure
  have e : (ByteArray.mk #[47]).size = 1 := rfl
  refine Ev.bind (h.rnorm (by omega)) (Ev.bind (hz.rtext (by omega)) (Ev.bind (same_one q.den (by omega)) ?_))
  unfold qtxt
  by_cases h0 : q.den = 1
  · rw [if_pos h0]
    exact Ev.fls (by rw [dec_t h0]; rfl) (fin _)
  · rw [if_neg h0]
    refine Ev.tru (by rw [dec_f h0]; rfl) ?_
    refine Ev.bind (hd.digits (by omega)) (Ev.fls (small_size (by simp only [e]; omega)) (Ev.fls (small_size (by simp only [ByteArray.size_append, e]; omega)) (fin _)))

/-! ### Scripts -/
def pscr (q : Rat) : ByteArray := if q.den = 1 then txt q.num.natAbs ++ ByteArray.mk #[46, 48] else (((ByteArray.mk #[40, 47, 32] ++ (txt q.num.natAbs ++ ByteArray.mk #[46, 48])) ++ ByteArray.mk #[32]) ++ txt q.den) ++ ByteArray.mk #[46, 48, 41]
def scr (q : Rat) : ByteArray := if q.num < 0 then (ByteArray.mk #[40, 45, 32] ++ pscr (-q)) ++ ByteArray.mk #[41] else pscr q

theorem pscr_size (q : Rat) : (pscr q).size ≤ 32 * LZ q.num + 32 * L q.den + 20 := by
  have s1 := txt_size q.den
  have s2 := txt_size q.num.natAbs
  unfold pscr LZ
  have e1 : (ByteArray.mk #[46, 48]).size = 2 := rfl
  have e2 : (ByteArray.mk #[40, 47, 32]).size = 3 := rfl
  have e3 : (ByteArray.mk #[32]).size = 1 := rfl
  have e4 : (ByteArray.mk #[46, 48, 41]).size = 3 := rfl
  split
  · rw [ByteArray.size_append, e1]; omega
  · simp only [ByteArray.size_append, e1, e2, e3, e4]; omega

theorem neg_num_pos (hq : q.num < 0) : ¬ (-q).num < 0 := by rw [Rat.neg_num]; omega

theorem scr_shape (x y : ByteArray) : (((ByteArray.mk #[40, 47, 32] ++ x) ++ ByteArray.mk #[46, 48, 32]) ++ y) ++ ByteArray.mk #[46, 48, 41] = (((ByteArray.mk #[40, 47, 32] ++ (x ++ ByteArray.mk #[46, 48])) ++ ByteArray.mk #[32]) ++ y) ++ ByteArray.mk #[46, 48, 41] := by
  have e : ByteArray.mk #[46, 48, 32] = ByteArray.mk #[46, 48] ++ ByteArray.mk #[32] := by decide
  rw [e]
  simp only [ByteArray.append_assoc]

end Go.FK


/- The plain law of Delta: Texts. -/
namespace Go.FK

theorem qtxt_size (q : Rat) : (qtxt q).size ≤ 64 * LQ q + 10 := by
  have s1 := txt_size q.den
  have s2 := wtxt_size q.num
  have l1 := LQ_num q
  have l2 := LQ_den q
  have e : (ByteArray.mk #[47]).size = 1 := rfl
  unfold qtxt
  split
  · omega
  · simp only [ByteArray.size_append, e]; omega
theorem qtxt_neg {q : Rat} (h : q.num < 0) : ByteArray.mk #[45] ++ qtxt (-q) = qtxt q := by
  have e1 : (-q).num = -q.num := Rat.neg_num q
  have e2 : (-q).den = q.den := Rat.neg_den q
  have e3 : ByteArray.mk #[45] ++ wtxt (-q.num) = wtxt q.num := by
    unfold wtxt
    rw [if_neg (by omega), if_pos h, Int.natAbs_neg]
  unfold qtxt
  rw [e1, e2]
  split
  · exact e3
  · rw [← ByteArray.append_assoc, e3]

def dtxt5 (p q : Rat) : ByteArray :=
  if q.num.sign = 1 then qtxt p ++ ((ByteArray.mk #[43] ++ qtxt q) ++ ByteArray.mk #[100])
  else if q.num.sign = -1 then qtxt p ++ (qtxt q ++ ByteArray.mk #[100]) else qtxt p

variable {M : Nat} {d : DD} {p q : Rat}
theorem Dt.text (h : Dt M d p q) (h1 : 1 ≤ M) (hM : M ≤ 100000000) : Ev (fun k => delta_Text.f k d) (dtxt5 p q) := by
  have fin : ∀ b : ByteArray, Ev (fun k => delta_Text.p15 k b) b := fun b => Ev.turn (fun k => delta_Text.p15_succ k b) Ev.pure
  have a1 := h.a.LQ h1
  have a2 := h.b.LQ h1
  have s1 := qtxt_size p
  have s2 := qtxt_size q
  have e1 : (ByteArray.mk #[43]).size = 1 := rfl
  have e2 : (ByteArray.mk #[100]).size = 1 := rfl
  unfold delta_Text.f delta_Text.e dtxt5
  refine Ev.bind (h.a.text h1 (by omega)) (Ev.bind (h.b.sign h1 (by omega)) ?_)
  by_cases c1 : q.num.sign = 1
  · rw [if_pos c1]
    refine Ev.tru (decide_eq_true c1) (Ev.bind (h.b.text h1 (by omega)) (Ev.fls (small_size (by simp only [e1]; omega)) (Ev.fls (small_size (by simp only [ByteArray.size_append, e1, e2]; omega)) (Ev.fls (small_size (by simp only [ByteArray.size_append, e1, e2]; omega)) (fin _)))))
  rw [if_neg c1]
  refine Ev.fls (decide_eq_false c1) ?_
  by_cases c2 : q.num.sign = -1
  · rw [if_pos c2]
    exact Ev.tru (decide_eq_true c2) (Ev.bind (h.b.text h1 (by omega)) (Ev.fls (small_size (by simp only [e2]; omega)) (Ev.fls (small_size (by simp only [ByteArray.size_append, e2]; omega)) (fin _))))
  · rw [if_neg c2]
    exact Ev.fls (decide_eq_false c2) (fin _)

theorem Dt.rtext (h : Dt M d p q) (h1 : 1 ≤ M) (hM : M ≤ 10000000) : Ev (fun k => ref05_Text.f k d) (dtxt5 p q) := by
  have fin : ∀ b : ByteArray, Ev (fun k => ref05_Text.p15 k b) b := fun b => Ev.turn (fun k => ref05_Text.p15_succ k b) Ev.pure
  have a1 := h.a.LQ h1
  have a2 := h.b.LQ h1
  have s1 := qtxt_size p
  have s2 := qtxt_size q
  have s3 := qtxt_size (-q)
  rw [LQ_neg] at s3
  have e1 : (ByteArray.mk #[43]).size = 1 := rfl
  have e2 : (ByteArray.mk #[100]).size = 1 := rfl
  have e3 : (ByteArray.mk #[45]).size = 1 := rfl
  unfold ref05_Text.f ref05_Text.e dtxt5
  refine Ev.bind (h.a.rtext h1 (by omega)) (Ev.bind (h.b.rsign h1 (by omega)) ?_)
  by_cases c1 : q.num.sign = 1
  · rw [if_pos c1]
    refine Ev.tru (decide_eq_true c1) (Ev.bind (h.b.rtext h1 (by omega)) (Ev.fls (small_size (by simp only [e1]; omega)) (Ev.fls (small_size (by simp only [ByteArray.size_append, e1, e2]; omega)) (Ev.fls (small_size (by simp only [ByteArray.size_append, e1, e2]; omega)) (fin _)))))
  rw [if_neg c1]
  refine Ev.fls (decide_eq_false c1) ?_
  by_cases c2 : q.num.sign = -1
  · rw [if_pos c2]
    have hn : Rt (2 * M) (FK.rat (-q)) (-q) := Rt.of (by rw [LQ_neg]; exact a2)
    rw [← qtxt_neg (Int.neg_of_sign_eq_neg_one c2)]
    exact Ev.tru (decide_eq_true c2) (Ev.bind (h.b.rneg h1 (by omega)) (Ev.bind (hn.rtext (by omega) (by omega)) (Ev.fls (small_size (by simp only [e3]; omega)) (Ev.fls (small_size (by simp only [ByteArray.size_append, e3, e2]; omega)) (Ev.fls (small_size (by simp only [ByteArray.size_append, e3, e2]; omega)) (fin _))))))
  · rw [if_neg c2]
    exact Ev.fls (decide_eq_false c2) (fin _)

end Go.FK
