import Derived.Test.YtedocilafacliaaGreatDoorM2
import Derived.Test.YtedocilafacliaaGreatDoorF3
import Derived.Laws.StructEq
import Derived.Lib.Bytealg

/- The plain law: what comes in, what the laws use. -/
namespace Go.FK

theorem LQ_abs (q : Rat) : LQ q.abs = LQ q := by
  rcases Rat.le_total (a := 0) (b := q) with h | h
  · rw [Rat.abs_of_nonneg h]
  · rw [Rat.abs_of_nonpos h, LQ_neg]

end Go.FK


/- The plain law of the second Ratio seat: the small fixed question; Norms, Field. -/
namespace Go.FK

theorem Ev.eq {α : Type} {r s : α} (h : r = s) : Ev (fun _ => Option.some r) s := h ▸ Ev.pure

/-! ### The reference's whole ratio of a small number -/
/-! ### Norms -/
end Go.FK


/- The plain law of the second Ratio seat: Field. -/
namespace Go.FK

theorem sign_mul (p q : Rat) : (p * q).num.sign = p.num.sign * q.num.sign := by
  rw [Rat.num_mul, ← Int.sign_mul]
  have hg : 0 < (p.num * q.num).natAbs.gcd (p.den * q.den) := Nat.gcd_pos_of_pos_right _ (Nat.mul_pos p.den_pos q.den_pos)
  have hd : (((p.num * q.num).natAbs.gcd (p.den * q.den) : Nat) : Int) ∣ p.num * q.num := Int.dvd_natAbs.1 (Int.natCast_dvd_natCast.2 (Nat.gcd_dvd_left _ _))
  obtain ⟨c, hc⟩ := hd
  generalize (p.num * q.num).natAbs.gcd (p.den * q.den) = g at hg hc
  rw [hc, Int.mul_ediv_cancel_left _ (by omega), Int.sign_mul, Int.sign_eq_one_of_pos (a := (g : Int)) (by omega), Int.one_mul]
variable {M : Nat} {a b c : RR} {p q s : Rat}

end Go.FK


/- The plain law of the second Ratio seat: texts of numbers. -/
namespace Go.FK

theorem drop_setN_at {v : Int} {o : List Int} {j : Nat} (h : j < o.length) : (setN v o j).drop j = v :: o.drop (j + 1) := by
  have hl : j < (setN v o j).length := by rw [length_setN]; exact h
  rw [List.drop_eq_getElem_cons hl, drop_setN (Nat.lt_succ_self j)]
  congr 1
  have := nthD_setN 0 v o j j
  rw [if_pos ⟨rfl, h⟩, nthD_eq, List.getD_eq_getElem?_getD, List.getElem?_eq_getElem hl] at this
  simpa using this

def chr (n : Nat) : Int := btI str_9f9f5111f7 (n : Int)
theorem tab_len : str_9f9f5111f7.size = 16 := by decide +kernel
/-- The digits, the lowest first. -/
def dg (n : Nat) : List Int := if h : n = 0 then [] else chr (n % 10) :: dg (n / 10)
termination_by n
decreasing_by omega
theorem dg_zero : dg 0 = [] := by rw [dg]; simp
theorem dg_pos {n : Nat} (h : n ≠ 0) : dg n = chr (n % 10) :: dg (n / 10) := by rw [dg]; simp [h]
def fin (l : List Int) : ByteArray := if l = [] then ByteArray.mk #[48] else ofB l.reverse
def txt (n : Nat) : ByteArray := fin (dg n)

theorem text_p4 (a : List Int) (hl : a.length ≤ 70368744177664) : ∀ (m i : Nat) (o : List Int), m + i = a.length → o.length = a.length → o.drop (a.length - i) = (a.take i).reverse → Ev (fun k => nat_Text.p4 k a o (a.length : Int) (i : Int)) (ofB a.reverse, (0 : Int)) := by
  intro m
  induction m with
  | zero =>
    intro i o hi ho hd
    refine Ev.turn (fun k => nat_Text.p4_succ k _ _ _ _) ?_
    unfold nat_Text.e4
    refine Ev.fls (by simp; omega) ?_
    have e : i = a.length := by omega
    subst e
    rw [Nat.sub_self, List.drop_zero, List.take_length] at hd
    rw [hd]
    exact Ev.pure
  | succ m ih =>
    intro i o hi ho hd
    refine Ev.turn (fun k => nat_Text.p4_succ k _ _ _ _) ?_
    unfold nat_Text.e4
    have e1 : IntKind.i64.wrap (IntKind.i64.wrap ((a.length : Int) - 1) - (i : Int)) = ((a.length - 1 - i : Nat) : Int) := by
      rw [wrap_i64 (n := (a.length : Int) - 1) (by omega) (by omega), wrap_i64 (by omega) (by omega)]; omega
    have e2 : IntKind.i64.wrap ((i : Int) + 1) = ((i + 1 : Nat) : Int) := by rw [wrap_i64 (by omega) (by omega)]; omega
    simp only [e1, e2, Int.toNat_natCast]
    refine Ev.tru (by simp; omega) (Ev.tru (by simp; omega) (Ev.tru (by simp; omega) ?_))
    refine ih (i + 1) _ (by omega) (by rw [length_setN]; exact ho) ?_
    have e3 : a.length - (i + 1) = a.length - 1 - i := by omega
    have e4 : a.length - 1 - i + 1 = a.length - i := by omega
    rw [e3, drop_setN_at (by omega), e4, hd, take_succ_get (by omega), List.reverse_append]
    rfl

theorem text_p0 {M : Nat} (hM : M ≤ 17592186044416) : ∀ (t n : Nat) (acc : List Int), n < 2 ^ t → acc.length + t ≤ 1099511627776 → L n ≤ M → Ev (fun k => nat_Text.p0 k acc 10 (lim n)) (fin (acc ++ dg n), (0 : Int)) := by
  intro t
  induction t with
  | zero =>
    intro n acc hn hl _
    obtain rfl : n = 0 := by simpa using hn
    refine Ev.turn (fun k => nat_Text.p0_succ k _ _ _) ?_
    unfold nat_Text.e0
    rw [lim_zero, dg_zero, List.append_nil]
    refine Ev.fls (by simp) ?_
    by_cases h : acc = []
    · subst h; exact Ev.tru (by simp) (by unfold fin; rw [if_pos rfl]; exact Ev.pure)
    · have : acc.length ≠ 0 := fun h' => h (List.length_eq_zero_iff.1 h')
      unfold fin
      rw [if_neg h]
      refine Ev.fls (by simp; exact h) (Ev.tru (by simp; omega) ?_)
      exact text_p4 acc (by omega) acc.length 0 _ (by omega) (by simp) (by simp)
  | succ t ih =>
    intro n acc hn hl hL
    by_cases h0 : n = 0
    · subst h0
      exact ih 0 acc (Nat.two_pow_pos t) (by omega) hL
    · refine Ev.turn (fun k => nat_Text.p0_succ k _ _ _) ?_
      unfold nat_Text.e0
      have hp := L_pos h0
      have hlen : (lim n).length = L n := rfl
      have ew : IntKind.u32.wrap 10 = ((10 : Nat) : Int) := by decide
      have hnt : Nt M (lim n) n := Nt.of hL
      obtain ⟨q, s1, s2⟩ := hnt.short hM (b := 10) (by omega) (by simp [B])
      have hd : n / 10 < 2 ^ t := by rw [Nat.pow_succ] at hn; omega
      rw [ew]
      refine Ev.tru (by simp; omega) (Ev.bind s1 (Ev.bind (s2.trim (by omega)) ?_))
      have hr : n % 10 < 10 := Nat.mod_lt _ (by omega)
      refine Ev.tru (by rw [tab_len]; simp; omega) (Ev.tru (by simp only [List.length_cons, List.length_nil, Bool.and_eq_true, Nat.ble_eq]; omega) ?_)
      have := ih (n / 10) (acc ++ [chr (n % 10)]) hd (by simp; omega) (Nat.le_trans (L_mono (Nat.div_le_self _ _)) hL)
      rw [List.append_assoc, List.singleton_append, ← dg_pos h0] at this
      exact this

theorem lt_two_pow_L (n : Nat) : n < 2 ^ (32 * L n) := by
  have := L_lt n
  rwa [show (4294967296 : Nat) = 2 ^ 32 from rfl, ← Nat.pow_mul] at this

theorem Nt.text {M n : Nat} {a : List Int} (h : Nt M a n) (hM : M ≤ 34359738368) : Ev (fun k => nat_Text.f k a 10) (txt n, (0 : Int)) := by
  unfold nat_Text.f nat_Text.e
  have hL := h.L
  refine Ev.fls (by simp) (Ev.fls (by simp) (Ev.bind (h.own (by omega)) ?_))
  exact text_p0 (M := M) (by omega) (32 * FK.L n) n [] (lt_two_pow_L n) (by simp; omega) hL

/-! ### The reference's -/
theorem rtenth_p0 (a : List Int) (b : Int) (ha : Lim a) (hl : a.length ≤ 17592186044416) (hb : 0 < b ∧ b < B) : ∀ (n : Nat) (q : List Int) (r : Int), n ≤ a.length → q.length = a.length → Lim q → (∀ j, j < n → nthD 0 q j = 0) → 0 ≤ r ∧ r < b →
    V q * b + B ^ n * r + V (a.take n) = V a → Ev (fun k => ref01_tenth.p0 k q a b r ((n : Int) - 1)) (lim (V a / b).toNat, V a % b) := by
  intro n
  induction n with
  | zero =>
    intro q r hn hq hlq hz hr hV
    simp only [Int.pow_zero, Int.one_mul, List.take_zero, V, Int.add_zero] at hV
    have h1 : V a / b = V q ∧ V a % b = r := by
      rw [Int.ediv_emod_unique (by omega)]
      refine ⟨?_, hr.1, hr.2⟩
      rw [← hV, Int.mul_comm]; omega
    rw [h1.1, h1.2]
    refine Ev.turn (fun k => ref01_tenth.p0_succ k _ _ _ _ _) ?_
    unfold ref01_tenth.e0
    have hq2 : Nt a.length q (V q).toNat := (Nt.mk' hlq).mono (by omega)
    have e1 : IntKind.i64.wrap r = r := wrap_i64 (by omega) (by simp only [B] at hb; omega)
    rw [e1]
    exact Ev.fls (by simp) (Ev.bind (hq2.rNorm (by omega)) Ev.pure)
  | succ n ih =>
    intro q r hn hq hlq hz hr hV
    have hx := ha.get' n
    have e1 : IntKind.i64.wrap ((n : Int) - 1) = (n : Int) - 1 := wrap_i64 (by omega) (by omega)
    have h0 : 0 ≤ r * B + nthD 0 a n := by simp only [B] at *; omega
    have h1 : r * B + nthD 0 a n < b * B := by
      have : (r + 1) * B ≤ b * B := Int.mul_le_mul_of_nonneg_right (by omega) (by simp [B])
      rw [Int.add_mul] at this
      omega
    have h2 : 0 ≤ (r * B + nthD 0 a n) / b := Int.ediv_nonneg h0 (by omega)
    have h3 : (r * B + nthD 0 a n) / b < B := Int.ediv_lt_of_lt_mul (by omega) (by have := Int.mul_comm b B; omega)
    have h4 := Int.emod_nonneg (r * B + nthD 0 a n) (show b ≠ 0 by omega)
    have h5 := Int.emod_lt_of_pos (r * B + nthD 0 a n) (show 0 < b by omega)
    have h6 := Int.emod_add_mul_ediv (r * B + nthD 0 a n) b
    have hV2 : V (setN ((r * B + nthD 0 a n) / b) q n) * b + B ^ n * ((r * B + nthD 0 a n) % b) + V (a.take n) = V a := by
      rw [V_setN _ _ _ (by omega), hz n (by omega)]
      rw [V_take_succ', Int.pow_succ] at hV
      generalize (r * B + nthD 0 a n) / b = d at *
      generalize (r * B + nthD 0 a n) % b = s at *
      grind
    have k1 := ih (setN ((r * B + nthD 0 a n) / b) q n) ((r * B + nthD 0 a n) % b) (by omega) (by rw [length_setN]; exact hq) (hlq.set ⟨h2, h3⟩)
      (fun j hj => by rw [nthD_setN, if_neg (by omega)]; exact hz j (by omega)) ⟨h4, h5⟩ hV2
    refine Ev.turn (fun k => ref01_tenth.p0_succ k _ _ _ _ _) ?_
    unfold ref01_tenth.e0
    have e0 : ((n + 1 : Nat) : Int) - 1 = (n : Int) := by omega
    have w1 : IntKind.u64.wrap b = b := wrap_u64_id (by omega) (by simp only [B] at *; omega)
    have w2 : IntKind.u64.wrap (nthD 0 a n) = nthD 0 a n := wrap_u64_id hx.1 (by simp only [B] at *; omega)
    have w3 := or_limbs (x := r) (y := nthD 0 a n) ⟨hr.1, by omega⟩ hx
    have w4 : (2 : Int) ^ 32 = 4294967296 := rfl
    rw [e0]
    simp only [Int.toNat_natCast, e1, w1, w2, w4, w3]
    rw [Int.tdiv_eq_ediv_of_nonneg h0, Int.tmod_eq_emod_of_nonneg h0, wrap_u64_id h2 (by simp only [B] at *; omega), wrap_u32_id h2 h3]
    refine Ev.tru (by simp) (Ev.tru (by simp; omega) (Ev.fls (by simp; omega) (Ev.tru (by simp; omega) (Ev.fls (by simp; omega) ?_))))
    exact k1

theorem Nt.tenth {M m : Nat} {a : List Int} {b : Nat} (ha : Nt M a m) (hM : M ≤ 17592186044416) (hb : 0 < b) (hb2 : (b : Int) < B) : Ev (fun k => ref01_tenth.f k a b) (FK.lim (m / b), ((m % b : Nat) : Int)) := by
  have la := ha.len
  have h1 := rtenth_p0 a b ha.lim (by omega) ⟨by omega, hb2⟩ a.length (List.replicate a.length 0) 0 (Nat.le_refl _) (by simp) (Lim_replicate_zero _)
    (fun j hj => by rw [nthD_eq, List.getD_eq_getElem?_getD]; by_cases h : j < a.length <;> simp [h]) (by omega) (by simp [V_replicate_zero])
  unfold ref01_tenth.f ref01_tenth.e
  have e1 : IntKind.i64.wrap ((a.length : Int) - 1) = (a.length : Int) - 1 := wrap_i64 (by omega) (by omega)
  rw [e1]
  simp only [Int.toNat_natCast]
  refine Ev.tru (by simp; omega) ?_
  rw [ha.val] at h1
  exact h1

theorem rtext_p4 (a : List Int) (hl : a.length ≤ 70368744177664) : ∀ (m i : Nat) (o : List Int), m + i = a.length → o.length = a.length → o.drop (a.length - i) = (a.take i).reverse → Ev (fun k => ref01_Text.p4 k a o (i : Int)) (ofB a.reverse, (0 : Int)) := by
  intro m
  induction m with
  | zero =>
    intro i o hi ho hd
    refine Ev.turn (fun k => ref01_Text.p4_succ k _ _ _) ?_
    unfold ref01_Text.e4
    refine Ev.fls (by simp; omega) ?_
    have e : i = a.length := by omega
    subst e
    rw [Nat.sub_self, List.drop_zero, List.take_length] at hd
    rw [hd]
    exact Ev.pure
  | succ m ih =>
    intro i o hi ho hd
    refine Ev.turn (fun k => ref01_Text.p4_succ k _ _ _) ?_
    unfold ref01_Text.e4
    have e1 : IntKind.i64.wrap (IntKind.i64.wrap ((a.length : Int) - 1) - (i : Int)) = ((a.length - 1 - i : Nat) : Int) := by
      rw [wrap_i64 (n := (a.length : Int) - 1) (by omega) (by omega), wrap_i64 (by omega) (by omega)]; omega
    have e2 : IntKind.i64.wrap ((i : Int) + 1) = ((i + 1 : Nat) : Int) := by rw [wrap_i64 (by omega) (by omega)]; omega
    simp only [e1, e2, Int.toNat_natCast]
    refine Ev.tru (by simp; omega) (Ev.tru (by simp; omega) (Ev.tru (by simp; omega) ?_))
    refine ih (i + 1) _ (by omega) (by rw [length_setN]; exact ho) ?_
    have e3 : a.length - (i + 1) = a.length - 1 - i := by omega
    have e4 : a.length - 1 - i + 1 = a.length - i := by omega
    rw [e3, drop_setN_at (by omega), e4, hd, take_succ_get (by omega), List.reverse_append]
    rfl

theorem rtext_p0 {M : Nat} (hM : M ≤ 17592186044416) : ∀ (t n : Nat) (acc : List Int), n < 2 ^ t → acc.length + t ≤ 1099511627776 → L n ≤ M → Ev (fun k => ref01_Text.p0 k acc (lim n) 10) (fin (acc ++ dg n), (0 : Int)) := by
  intro t
  induction t with
  | zero =>
    intro n acc hn hl _
    obtain rfl : n = 0 := by simpa using hn
    refine Ev.turn (fun k => ref01_Text.p0_succ k _ _ _) ?_
    unfold ref01_Text.e0
    rw [lim_zero, dg_zero, List.append_nil]
    refine Ev.fls (by simp) ?_
    by_cases h : acc = []
    · subst h; exact Ev.tru (by simp) (by unfold fin; rw [if_pos rfl]; exact Ev.pure)
    · have : acc.length ≠ 0 := fun h' => h (List.length_eq_zero_iff.1 h')
      unfold fin
      rw [if_neg h]
      refine Ev.fls (by simp; exact h) (Ev.tru (by simp; omega) ?_)
      exact rtext_p4 acc (by omega) acc.length 0 _ (by omega) (by simp) (by simp)
  | succ t ih =>
    intro n acc hn hl hL
    by_cases h0 : n = 0
    · subst h0
      exact ih 0 acc (Nat.two_pow_pos t) (by omega) hL
    · refine Ev.turn (fun k => ref01_Text.p0_succ k _ _ _) ?_
      unfold ref01_Text.e0
      have hp := L_pos h0
      have hlen : (lim n).length = L n := rfl
      have hnt : Nt M (lim n) n := Nt.of hL
      have s1 := hnt.tenth hM (b := 10) (by omega) (by simp [B])
      have hd : n / 10 < 2 ^ t := by rw [Nat.pow_succ] at hn; omega
      refine Ev.tru (by simp; omega) (Ev.bind s1 ?_)
      have hr : n % 10 < 10 := Nat.mod_lt _ (by omega)
      refine Ev.tru (by rw [tab_len]; simp; omega) (Ev.tru (by simp only [List.length_cons, List.length_nil, Bool.and_eq_true, Nat.ble_eq]; omega) ?_)
      have := ih (n / 10) (acc ++ [chr (n % 10)]) hd (by simp; omega) (Nat.le_trans (L_mono (Nat.div_le_self _ _)) hL)
      rw [List.append_assoc, List.singleton_append, ← dg_pos h0] at this
      exact this

theorem Nt.rtext {M n : Nat} {a : List Int} (h : Nt M a n) (hM : M ≤ 34359738368) : Ev (fun k => ref01_Text.f k a 10) (txt n, (0 : Int)) := by
  unfold ref01_Text.f ref01_Text.e
  have hL := h.L
  refine Ev.fls (by simp) (Ev.fls (by simp) (Ev.bind (h.rNorm (by omega)) ?_))
  exact rtext_p0 (M := M) (by omega) (32 * FK.L n) n [] (lt_two_pow_L n) (by simp; omega) hL

end Go.FK


/- The plain law of the second Ratio seat: Texts. -/
namespace Go.FK

theorem ofB_foldl_size (l : List Int) : ∀ s : ByteArray, (l.foldl (fun s n => s.push (UInt8.ofNat n.toNat)) s).size = s.size + l.length := by
  induction l with
  | nil => intro s; rfl
  | cons x xs ih => intro s; rw [List.foldl_cons, ih, ByteArray.size_push, List.length_cons]; omega
theorem ofB_size (l : List Int) : (ofB l).size = l.length := by
  unfold ofB
  rw [ofB_foldl_size]
  show 0 + _ = _
  omega
theorem dg_length : ∀ (t n : Nat), n < 2 ^ t → (dg n).length ≤ t := by
  intro t
  induction t with
  | zero => intro n hn; obtain rfl : n = 0 := by simpa using hn
            rw [dg_zero]; simp
  | succ t ih =>
    intro n hn
    by_cases h : n = 0
    · subst h; rw [dg_zero]; simp
    · have := ih (n / 10) (by rw [Nat.pow_succ] at hn; omega)
      rw [dg_pos h, List.length_cons]; omega
theorem txt_size (n : Nat) : (txt n).size ≤ 32 * L n + 1 := by
  unfold txt fin
  split
  · show 1 ≤ _; omega
  · rw [ofB_size, List.length_reverse]
    have := dg_length _ n (lt_two_pow_L n)
    omega
theorem small_size {n : Nat} (h : n ≤ 1000000000000000) : decide ((n : Int) > IntKind.i64.max) = false := by
  have : IntKind.i64.max = 9223372036854775807 := by decide
  rw [this]
  simp; omega

def wtxt (z : Int) : ByteArray := if z < 0 then ByteArray.mk #[45] ++ txt z.natAbs else txt z.natAbs
theorem Zt.text {M : Nat} {a : Bool × List Int} {z : Int} (h : Zt M a z) (hM : M ≤ 1099511627776 / 32) : Ev (fun k => whole_Text.f k a) (wtxt z) := by
  unfold whole_Text.f whole_Text.e
  have hs := txt_size z.natAbs
  have hL : L z.natAbs ≤ M := h.nt.L
  refine Ev.bind (h.nt.text (by omega)) (Ev.bind (h.sign (by omega)) ?_)
  unfold wtxt
  by_cases h0 : z < 0
  · rw [if_pos h0]
    have e : (ByteArray.mk #[45]).size = 1 := rfl
    exact Ev.tru (dec_t ((sign_neg_iff z).2 h0)) (Ev.fls (small_size (by simp only [e]; omega)) Ev.pure)
  · rw [if_neg h0]
    exact Ev.fls (dec_f (fun h => h0 ((sign_neg_iff z).1 h))) Ev.pure
variable {M : Nat} {r : RR} {q : Rat}

/-! ### Scripts -/
end Go.FK


/- The plain law of the second Ratio seat: Floors. -/
namespace Go.FK

/-- Quotient and remainder, cut towards zero. -/
def tq (z : Int) (d : Nat) : Int := if z < 0 then -((z.natAbs / d : Nat) : Int) else ((z.natAbs / d : Nat) : Int)
def tr (z : Int) (d : Nat) : Int := if z < 0 then -((z.natAbs % d : Nat) : Int) else ((z.natAbs % d : Nat) : Int)

theorem tr_natAbs (z : Int) (d : Nat) : (tr z d).natAbs = z.natAbs % d := by unfold tr; generalize z.natAbs % d = n; split <;> omega
theorem tq_natAbs (z : Int) (d : Nat) : (tq z d).natAbs = z.natAbs / d := by unfold tq; generalize z.natAbs / d = n; split <;> omega

theorem floor_eq (z : Int) {d : Nat} (hd : d ≠ 0) : (if tr z d < 0 then tq z d - 1 else tq z d) = z / (d : Int) := by
  have h1 := Nat.div_add_mod z.natAbs d
  have h2 := Nat.mod_lt z.natAbs (by omega : 0 < d)
  have h3 : ((d * (z.natAbs / d) : Nat) : Int) = (d : Int) * ((z.natAbs / d : Nat) : Int) := by rw [Int.natCast_mul]
  symm
  unfold tr tq
  by_cases hz : z < 0
  · simp only [if_pos hz]
    by_cases hr : z.natAbs % d = 0
    · rw [if_neg (by omega)]
      have e : z = (d : Int) * (-((z.natAbs / d : Nat) : Int)) := by rw [Int.mul_neg]; omega
      exact Int.ediv_eq_of_eq_mul_right (by omega) e
    · rw [if_pos (by omega)]
      refine ((Int.ediv_emod_unique (a := z) (b := (d : Int)) (r := (d : Int) - ((z.natAbs % d : Nat) : Int)) (by omega)).2 ⟨?_, by omega, by omega⟩).1
      rw [Int.mul_sub, Int.mul_neg, Int.mul_one]
      omega
  · simp only [if_neg hz]
    rw [if_neg (by omega)]
    exact ((Int.ediv_emod_unique (a := z) (b := (d : Int)) (r := ((z.natAbs % d : Nat) : Int)) (by omega)).2 ⟨by omega, by omega, by omega⟩).1

variable {M : Nat}

theorem LZ_tq (z : Int) (d : Nat) : LZ (tq z d) ≤ LZ z := by unfold LZ; rw [tq_natAbs]; exact L_div _ _
theorem LZ_tr (z : Int) (d : Nat) : LZ (tr z d) ≤ LZ z := by unfold LZ; rw [tr_natAbs]; exact L_mono (Nat.mod_le _ _)

theorem pos_sign {d : Nat} (hd : d ≠ 0) : (d : Int).sign = 1 := Int.sign_eq_one_of_pos (by omega)

theorem quo_ev {a b : Bool × List Int} {z : Int} {d : Nat} (ha : Zt M a z) (hb : Zt M b d) (hd : d ≠ 0) (hM : M ≤ 1000000000000) : Ev (fun k => whole_Quo.f k a b) (int (tq z d), int (tr z d), (0 : Int)) := by
  unfold whole_Quo.f whole_Quo.e
  have hb' : Nt M b.2 d := hb.nt
  have la := ha.LZ
  have n1 : Nt M (lim (z.natAbs / d)) (z.natAbs / d) := Nt.of (Nat.le_trans (L_div _ _) la)
  have n2 : Nt M (lim (z.natAbs % d)) (z.natAbs % d) := Nt.of (Nat.le_trans (L_mono (Nat.mod_le _ _)) la)
  have sa := ha.sign (by omega)
  have sb := hb.sign (by omega)
  have hs := sign_neg_iff z
  have hc := sign_cases z
  refine Ev.bind (ha.nt.div hb' (by omega) hd) (Ev.fls (by simp) (Ev.bind sa (Ev.bind sb ?_)))
  rw [pos_sign hd]
  refine Ev.bind (n1.signed2 (by omega) (z := tq z d) hc (by omega) (tq_natAbs z d).symm ?_) (Ev.bind sa (Ev.bind (n2.signed1 (by omega) (z := tr z d) hc (tr_natAbs z d).symm ?_) Ev.pure))
  · unfold tq; generalize z.natAbs / d = n; split <;> omega
  · unfold tr; generalize z.natAbs % d = n; split <;> omega

theorem one_zt (hM : 1 ≤ M) : Zt M (int 1) 1 := Zt.of (by have : LZ 1 ≤ 1 := L_le (by decide); omega)

theorem floor_ev {a b : Bool × List Int} {z : Int} {d : Nat} (ha : Zt M a z) (hb : Zt M b d) (hd : d ≠ 0) (h1 : 1 ≤ M) (hM : M ≤ 1000000000000) : ∃ r, Ev (fun k => whole_Floor.f k a b) (int (z / (d : Int)), r, (0 : Int)) := by
  have l1 := LZ_tq z d
  have l2 := LZ_tr z d
  have l3 := ha.LZ
  have hq : Zt M (int (tq z d)) (tq z d) := Zt.of (by omega)
  have hr : Zt M (int (tr z d)) (tr z d) := Zt.of (by omega)
  have hs := sign_neg_iff (tr z d)
  have hc := sign_cases (tr z d)
  have hf := floor_eq z hd
  have sb := hb.sign (by omega)
  rw [pos_sign hd] at sb
  unfold whole_Floor.f whole_Floor.e
  by_cases h0 : tr z d < 0
  · rw [if_pos h0] at hf
    refine ⟨int (tr z d + d), Ev.bind (quo_ev ha hb hd hM) (Ev.fls (by simp) (Ev.bind (hr.sign (by omega)) (Ev.bind sb ?_)))⟩
    rw [wrap_i64 (by omega) (by omega), dec_t (by omega)]
    have hmv : Ev (fun k => whole_moved.f k (int (tq z d)) (int (tr z d)) b true) (int (tq z d - 1), int (tr z d + d), (0 : Int)) := by
      unfold whole_moved.f whole_moved.e
      refine Ev.fls rfl (Ev.bind (hr.sign (by omega)) (Ev.bind sb (Ev.fls (dec_f (by omega)) ?_)))
      exact Ev.bind (whole_Of_ev (by omega)) (Ev.bind (hq.sub (one_zt h1) (by omega)) (Ev.bind (hr.add hb (by omega)) Ev.pure))
    rw [hf] at hmv
    exact Ev.bind hmv Ev.pure
  · rw [if_neg h0] at hf
    refine ⟨int (tr z d), Ev.bind (quo_ev ha hb hd hM) (Ev.fls (by simp) (Ev.bind (hr.sign (by omega)) (Ev.bind sb ?_)))⟩
    rw [wrap_i64 (by omega) (by omega), dec_f (by omega)]
    have hmv : Ev (fun k => whole_moved.f k (int (tq z d)) (int (tr z d)) b false) (int (tq z d), int (tr z d), (0 : Int)) := by
      unfold whole_moved.f whole_moved.e
      exact Ev.tru rfl Ev.pure
    exact Ev.bind hmv (Ev.eq (by rw [← hf]))

variable {r : RR} {q : Rat}
/-- The greatest whole number not above it. -/
def qfloor (q : Rat) : Int := q.num / (q.den : Int)
theorem Rt.floor (h : Rt M r q) (h1 : 1 ≤ M) (hM : M ≤ 100000000000) : Ev (fun k => ratio_Floor.f k r) (int (qfloor q)) := by
  have l := h.LQ h1
  have l1 := LQ_num q
  have l2 := LQ_den q
  obtain ⟨x, hx⟩ := floor_ev (M := 2 * M) (Zt.of (z := q.num) (by omega)) (Zt.pos (Nt.of (n := q.den) (by omega))) q.den_nz (by omega) (by omega)
  unfold ratio_Floor.f ratio_Floor.e
  exact Ev.bind (h.norm (by omega)) (Ev.bind hx Ev.pure)
end Go.FK


/- The plain law of the second Ratio seat: reading numbers from letters. -/
namespace Go.FK

/-! ### Letters as numbers -/
def bs (s : ByteArray) : List Int := s.data.toList.map fun b => (b.toNat : Int)
theorem bs_length (s : ByteArray) : (bs s).length = s.size := by
  simp only [bs, List.length_map, Array.length_toList]; rfl
theorem bs_btI (s : ByteArray) (i : Nat) : btI s (i : Int) = nthD 0 (bs s) i := by
  unfold btI
  rw [nthD_eq, List.getD_eq_getElem?_getD]
  by_cases h : i < s.size
  · have h' : (i : Int).toNat < s.size := by simpa using h
    rw [dif_pos h']
    have h2 : i < s.data.toList.length := by rw [Array.length_toList]; exact h
    simp [bs, ByteArray.getElem_eq_getElem_data, h]
  · have h' : ¬ (i : Int).toNat < s.size := by simpa using h
    rw [dif_neg h', List.getElem?_eq_none (by rw [bs_length]; omega)]
    rfl
theorem bs_btI0 (s : ByteArray) : btI s (0 : Int) = nthD 0 (bs s) 0 := bs_btI s 0
theorem bs_extract (s : ByteArray) (i j : Nat) : bs (s.extract i j) = ((bs s).take j).drop i := by
  simp only [bs, ByteArray.data_extract, Array.toList_extract, List.extract_eq_take_drop, List.map_drop, List.map_take]
  rw [List.drop_take]
theorem bs_inj {a b : ByteArray} (h : bs a = bs b) : a = b := by
  apply WideShapes.bytes_inj
  exact (List.map_inj_right fun (x y : UInt8) (h' : (x.toNat : Int) = y.toNat) => UInt8.toNat_inj.1 (by omega)).1 h
theorem beq_bs (a b : ByteArray) : (a.toList == b.toList) = decide (bs a = bs b) := by
  by_cases h : bs a = bs b
  · rw [dec_t h, bs_inj h]; simp
  · rw [dec_f h]
    cases hx : a.toList == b.toList with
    | false => rfl
    | true =>
      have hx := eq_of_beq hx
      rw [ByteArray.toList_eq, ByteArray.toList_eq] at hx
      exact absurd (by unfold bs; rw [hx]) h
theorem bs_range (s : ByteArray) : ∀ x ∈ bs s, 0 ≤ x ∧ x < 256 := by
  intro x hx
  simp only [bs, List.mem_map] at hx
  obtain ⟨b, _, rfl⟩ := hx
  have := b.toNat_lt
  omega

/-! ### Numbers -/
def dgt (c : Int) : Bool := decide (48 ≤ c) && decide (c ≤ 57)
def dval (l : List Int) : Nat := l.foldl (fun a c => a * 10 + (c - 48).toNat) 0
def pn (l : List Int) : Option Nat := if l = [] ∨ (1 < l.length ∧ nthD 0 l 0 = 48) then none else if l.all dgt then some (dval l) else none
def pnR (l : List Int) : List Int × Int := match pn l with
  | some n => (lim n, 0)
  | none => ([], 15)

theorem dval_snoc (l : List Int) (c : Int) : dval (l ++ [c]) = dval l * 10 + (c - 48).toNat := by simp [dval]
theorem dval_take_succ {l : List Int} {i : Nat} (h : i < l.length) : dval (l.take (i + 1)) = dval (l.take i) * 10 + (nthD 0 l i - 48).toNat := by rw [take_succ_get h, dval_snoc]
theorem dval_lt : ∀ (n : Nat) (l : List Int), l.length = n → l.all dgt = true → dval l < 10 ^ n := by
  intro n
  induction n with
  | zero => intro l hl _; rw [List.length_eq_zero_iff.1 hl]; decide
  | succ n ih =>
    intro l hl ha
    obtain ⟨m, c, rfl⟩ : ∃ m c, l = m ++ [c] := ⟨l.dropLast, l.getLast (by intro h; simp [h] at hl), (List.dropLast_concat_getLast _).symm⟩
    simp only [List.all_append, List.all_cons, List.all_nil, Bool.and_true, Bool.and_eq_true] at ha
    have := ih m (by simpa using hl) ha.1
    have h2 := ha.2
    simp only [dgt, Bool.and_eq_true, decide_eq_true_eq] at h2
    rw [dval_snoc, Nat.pow_succ]
    omega
theorem L_dval {l : List Int} (h : l.all dgt = true) : L (dval l) ≤ l.length := by
  apply L_le
  have h1 := dval_lt _ l rfl h
  exact Nat.lt_of_lt_of_le h1 (Nat.pow_le_pow_left (by omega) _)

theorem all_take {l : List Int} {i : Nat} (h : i < l.length) (h1 : (l.take i).all dgt = true) (h2 : dgt (nthD 0 l i) = true) : (l.take (i + 1)).all dgt = true := by
  rw [take_succ_get h, List.all_append, h1]; simp [h2]
theorem all_not {l : List Int} {i : Nat} (h : i < l.length) (h2 : dgt (nthD 0 l i) = false) : l.all dgt = false := by
  cases hx : l.all dgt with
  | false => rfl
  | true =>
    have hm : nthD 0 l i ∈ l := by
      rw [nthD_eq, List.getD_eq_getElem?_getD, List.getElem?_eq_getElem h]
      exact List.getElem_mem h
    have := List.all_eq_true.1 hx _ hm
    rw [h2] at this
    cases this

/-! ### The program's reading of a number -/
theorem parse_p4 (a : List Int) (s : ByteArray) (sz i : Int) (ha : Lim a) (hl : a.length ≤ 35184372088) (d : Nat) (R : List Int × Int)
    (hR : ∀ c, Lim c → V c = V a * 10 + d → c.length ≤ a.length + 1 → Ev (fun k => nat_Parse.p45 k c s 10 sz i) R) : ∀ (m j : Nat) (c : List Int) (r : Nat), m + j = a.length → c.length = a.length → Lim c → r ≤ 9 → c.drop j = a.drop j → V (c.take j) + B ^ j * r = V (a.take j) * 10 + d →
      Ev (fun k => nat_Parse.p4 k c s 10 r sz i (a.length : Int) (j : Int)) R := by
  intro m
  induction m with
  | zero =>
    intro j c r hj hc hlc hr hd hV
    have ej : j = a.length := by omega
    subst ej
    refine Ev.turn (fun k => nat_Parse.p4_succ k _ _ _ _ _ _ _ _) ?_
    unfold nat_Parse.e4
    rw [List.take_length, show c.take a.length = c by rw [← hc, List.take_length]] at hV
    refine Ev.fls (by simp) ?_
    by_cases h0 : r = 0
    · subst h0
      refine Ev.fls (by simp) (hR c hlc ?_ (by omega))
      simpa using hV
    · have ew : IntKind.u32.wrap (r : Int) = r := wrap_u32_id (by omega) (by omega)
      rw [ew]
      refine Ev.tru (by simp; omega) (Ev.tru (by simp only [List.length_cons, List.length_nil, Bool.and_eq_true, Nat.ble_eq]; omega) (hR _ ?_ ?_ (by simp; omega)))
      · intro x hx
        rcases List.mem_append.1 hx with hx | hx
        · exact hlc x hx
        · simp only [List.mem_singleton] at hx; subst hx; simp only [B]; omega
      · rw [V_append, hc, ← hV]
        simp [V]
  | succ m ih =>
    intro j c r hj hc hlc hr hd hV
    refine Ev.turn (fun k => nat_Parse.p4_succ k _ _ _ _ _ _ _ _) ?_
    unfold nat_Parse.e4
    have hjl : j < a.length := by omega
    have hx := ha.get' j
    have hcj : nthD 0 c j = nthD 0 a j := by
      have e1 : c.drop j = c[j] :: c.drop (j + 1) := List.drop_eq_getElem_cons (by omega)
      have e2 : a.drop j = a[j] :: a.drop (j + 1) := List.drop_eq_getElem_cons (by omega)
      rw [e1, e2] at hd
      rw [nthD_eq, nthD_eq, List.getD_eq_getElem?_getD, List.getD_eq_getElem?_getD, List.getElem?_eq_getElem (by omega), List.getElem?_eq_getElem (by omega)]
      simpa using (List.cons.inj hd).1
    have hb : nthD 0 a j < 4294967296 := by have := hx.2; simpa only [B] using this
    have w1 : IntKind.u64.wrap (10 : Int) = 10 := by decide
    have w2 : IntKind.u64.wrap (nthD 0 a j) = nthD 0 a j := wrap_u64_id (by omega) (by omega)
    have w3 : IntKind.u64.wrap (nthD 0 a j * 10) = nthD 0 a j * 10 := wrap_u64_id (by omega) (by omega)
    have w4 : IntKind.u64.wrap (nthD 0 a j * 10 + (r : Int)) = nthD 0 a j * 10 + r := wrap_u64_id (by omega) (by omega)
    have w5 : IntKind.u64.wrap (nthD 0 a j * 10 + (r : Int)) = nthD 0 a j * 10 + r := w4
    have w6 : IntKind.u32.wrap (nthD 0 a j * 10 + (r : Int)) = (nthD 0 a j * 10 + r) % 4294967296 := wrap_u32 _
    have w7 : Int.fdiv (nthD 0 a j * 10 + (r : Int)) (2 ^ 32) = (((nthD 0 a j * 10 + r) / 4294967296).toNat : Nat) := by
      rw [Int.fdiv_eq_ediv_of_nonneg _ (by omega)]; omega
    have w8 : IntKind.i64.wrap ((j : Int) + 1) = ((j + 1 : Nat) : Int) := by rw [wrap_i64 (by omega) (by omega)]; omega
    simp only [Int.toNat_natCast, hcj, w1, w2, w3, w4, w6, w7, w8]
    refine Ev.tru (by simp; omega) (Ev.tru (by simp; omega) (Ev.tru (by simp; omega) ?_))
    refine ih (j + 1) _ _ (by omega) (by rw [length_setN]; exact hc) (hlc.set (by simp only [B]; omega)) (by omega) ?_ ?_
    · rw [drop_setN (by omega)]
      have e1 : c.drop (j + 1) = (c.drop j).drop 1 := by rw [List.drop_drop]
      have e2 : a.drop (j + 1) = (a.drop j).drop 1 := by rw [List.drop_drop]
      rw [e1, e2, hd]
    · rw [V_take_setN (by omega), V_take_succ', Int.pow_succ]
      have h6 : (nthD 0 a j * 10 + r) % 4294967296 + B * (((nthD 0 a j * 10 + (r : Int)) / 4294967296).toNat : Nat) = nthD 0 a j * 10 + r := by
        simp only [B]; omega
      generalize (nthD 0 a j * 10 + (r : Int)) % 4294967296 = u at *
      generalize ((((nthD 0 a j * 10 + (r : Int)) / 4294967296).toNat : Nat) : Int) = v at *
      generalize nthD 0 a j = y at *
      generalize V (a.take j) = A at *
      generalize V (c.take j) = C at *
      generalize B ^ j = β at *
      have : C + β * u + β * B * v = C + β * (u + B * v) := by rw [Int.mul_add, Int.mul_assoc]; omega
      rw [this, h6, Int.mul_add]
      have e3 : β * (y * 10) = β * y * 10 := by rw [Int.mul_assoc]
      rw [e3, Int.add_mul]
      omega

theorem tab_low : ∀ n : Nat, n < 10 → nthD 0 tab_1 n = (n : Int) := by decide
theorem tab_high : ∀ n : Nat, n < 55 → ¬ n < 10 → 10 ≤ nthD 0 tab_1 n := by decide

theorem parse_p0 (s : ByteArray) (hs : s.size ≤ 1073741824) : ∀ (m i : Nat) (c : List Int), m + i = s.size → Lim c → V c = dval ((bs s).take i) → c.length ≤ i → ((bs s).take i).all dgt = true →
    Ev (fun k => nat_Parse.p0 k c s 10 (s.size : Int) (i : Int)) (if (bs s).all dgt then (lim (dval (bs s)), 0) else ([], 15)) := by
  intro m
  induction m with
  | zero =>
    intro i c hi hc hV hcl ha
    refine Ev.turn (fun k => nat_Parse.p0_succ k _ _ _ _ _) ?_
    unfold nat_Parse.e0
    have ei : i = (bs s).length := by rw [bs_length]; omega
    rw [ei, List.take_length] at hV ha
    rw [if_pos ha]
    have hn : Nt i c (dval (bs s)) := ⟨hc, hV, hcl⟩
    exact Ev.fls (by simp; omega) (Ev.bind (hn.own (by omega)) Ev.pure)
  | succ m ih =>
    intro i c hi hc hV hcl ha
    refine Ev.turn (fun k => nat_Parse.p0_succ k _ _ _ _ _) ?_
    unfold nat_Parse.e0
    have hil : i < (bs s).length := by rw [bs_length]; omega
    have hm : nthD 0 (bs s) i ∈ bs s := by
      rw [nthD_eq, List.getD_eq_getElem?_getD, List.getElem?_eq_getElem hil]
      exact List.getElem_mem hil
    have hx := bs_range s _ hm
    have p23 : Ev (fun k => nat_Parse.p23 k ()) (([] : List Int), (15 : Int)) := Ev.turn (fun k => nat_Parse.p23_succ k _) Ev.pure
    rw [bs_btI]
    have hnext := @all_take (bs s) i hil ha
    have hnot := @all_not (bs s) i hil
    have hdv := @dval_take_succ (bs s) i hil
    generalize nthD 0 (bs s) i = x at *
    have e1 : IntKind.i64.wrap x = x := wrap_i64 (by omega) (by omega)
    have e2 : IntKind.i64.wrap (x - 48) = x - 48 := wrap_i64 (by omega) (by omega)
    rw [e1, e2]
    refine Ev.tru (by simp; omega) (Ev.tru (by simp; omega) ?_)
    by_cases h1 : x - 48 < 0
    · rw [hnot (by simp [dgt]; omega)]
      exact Ev.tru (dec_t h1) p23
    refine Ev.fls (dec_f h1) ?_
    by_cases h2 : x - 48 ≥ 55
    · rw [hnot (by simp [dgt]; omega)]
      exact Ev.tru (dec_t h2) p23
    refine Ev.fls (dec_f h2) ?_
    have hlen : tab_1.length = 55 := by decide
    have ew : IntKind.u32.wrap 10 = 10 := by decide
    refine Ev.tru (by rw [hlen]; simp; omega) ?_
    rw [ew]
    by_cases h3 : x - 48 < 10
    · obtain ⟨n, hn⟩ : ∃ n : Nat, x - 48 = n := ⟨(x - 48).toNat, by omega⟩
      have hnl : n < 10 := by omega
      have e3 : nthD 0 tab_1 (Int.toNat (x - 48)) = n := by rw [hn, Int.toNat_natCast]; exact tab_low n hnl
      rw [e3]
      have e4 : IntKind.u64.wrap (n : Int) = n := wrap_u64_id (by omega) (by omega)
      rw [e4]
      refine Ev.fls (by simp; omega) (Ev.tru (by rw [hlen]; simp; omega) ?_)
      refine parse_p4 c s (s.size : Int) (i : Int) hc (by omega) n _ (fun c' k1 k2 k3 => ?_) c.length 0 c n (by omega) rfl hc (by omega) rfl (by simp [V])
      refine Ev.turn (fun k => nat_Parse.p45_succ k _ _ _ _ _) ?_
      unfold nat_Parse.e45
      have e5 : IntKind.i64.wrap ((i : Int) + 1) = ((i + 1 : Nat) : Int) := by rw [wrap_i64 (by omega) (by omega)]; omega
      simp only [e5]
      refine ih (i + 1) c' (by omega) k1 ?_ (by omega) (hnext (by simp [dgt]; omega))
      rw [hdv, k2, hV, hn, Int.toNat_natCast]
      omega
    · have := tab_high (Int.toNat (x - 48)) (by omega) (by omega)
      rw [hnot (by simp [dgt]; omega)]
      exact Ev.tru (by simp; omega) p23

theorem nat_Parse_ev (s : ByteArray) (hs : s.size ≤ 1073741824) : Ev (fun k => nat_Parse.f k s 10) (pnR (bs s)) := by
  unfold nat_Parse.f nat_Parse.e
  have hl := bs_length s
  have p9 : Ev (fun k => nat_Parse.p9 k ()) (([] : List Int), (15 : Int)) := Ev.turn (fun k => nat_Parse.p9_succ k _) Ev.pure
  have p11 : Ev (fun k => nat_Parse.p11 k s 10) (if (bs s).all dgt then (lim (dval (bs s)), 0) else ([], 15)) := by
    refine Ev.turn (fun k => nat_Parse.p11_succ k _ _) ?_
    unfold nat_Parse.e11
    exact parse_p0 s hs s.size 0 [] (by omega) Lim.nil (by simp [V, dval]) (by simp) (by simp)
  have hnil : bs (ByteArray.mk #[]) = [] := rfl
  refine Ev.fls (by simp) (Ev.fls (by simp) ?_)
  rw [beq_bs, hnil]
  unfold pnR pn
  by_cases h0 : bs s = []
  · rw [if_pos (.inl h0)]
    exact Ev.tru (dec_t h0) p9
  refine Ev.fls (dec_f h0) ?_
  have hpos : 0 < s.size := by
    rw [← hl]
    exact Nat.pos_of_ne_zero fun h => h0 (List.length_eq_zero_iff.1 h)
  by_cases h1 : 1 < s.size
  · refine Ev.tru (by simp; omega) (Ev.tru (by simp; omega) ?_)
    rw [bs_btI0]
    by_cases h2 : nthD 0 (bs s) 0 = 48
    · rw [if_pos (.inr ⟨by omega, h2⟩)]
      exact Ev.tru (dec_t h2) p9
    · rw [if_neg (fun h => h.elim h0 fun h => h2 h.2)]
      refine Ev.fls (dec_f h2) ?_
      cases hx : (bs s).all dgt <;> rw [hx] at p11 <;> simpa using p11
  · refine Ev.fls (by simp; omega) ?_
    rw [if_neg (fun h => h.elim h0 fun h => h1 (by omega))]
    cases hx : (bs s).all dgt <;> rw [hx] at p11 <;> simpa using p11

/-! ### The reference's -/
end Go.FK


/- The plain law of the second Ratio seat: cutting texts; powers of ten. -/
namespace Go.FK

theorem bs_one (c : UInt8) : bs (ByteArray.mk #[c]) = [(c.toNat : Int)] := rfl

/-- The sign ahead. -/
theorem prefix_ev (s : ByteArray) (c : UInt8) : Ev (fun k => strings_CutPrefix.f k s (ByteArray.mk #[c])) (if nthD 0 (bs s) 0 = c.toNat ∧ 0 < s.size then (s.extract 1 s.size, true) else (s, false)) := by
  have hl := bs_length s
  have hsz : (ByteArray.mk #[c]).size = 1 := rfl
  have hp : Ev (fun k => stringslite_HasPrefix.f k s (ByteArray.mk #[c])) (decide (nthD 0 (bs s) 0 = c.toNat ∧ 0 < s.size)) := by
    unfold stringslite_HasPrefix.f stringslite_HasPrefix.e
    by_cases h : 0 < s.size
    · refine Ev.tru (by rw [hsz]; simp; omega) (Ev.tru (by rw [hsz]; simp; omega) (Ev.eq ?_))
      rw [beq_bs, bs_extract, bs_one, hsz]
      apply decide_eq_decide.2
      have : (bs s).take 1 = [nthD 0 (bs s) 0] := by
        have := take_succ_get (a := bs s) (n := 0) (by omega)
        simpa using this
      simp [this, h]
    · refine Ev.fls (by rw [hsz]; simp; omega) (Ev.eq ?_)
      simp [h]
  unfold strings_CutPrefix.f strings_CutPrefix.e
  refine Ev.bind (?_ : Ev (fun k => stringslite_CutPrefix.f k s (ByteArray.mk #[c])) (if nthD 0 (bs s) 0 = c.toNat ∧ 0 < s.size then (s.extract 1 s.size, true) else (s, false))) Ev.pure
  unfold stringslite_CutPrefix.f stringslite_CutPrefix.e
  refine Ev.bind hp ?_
  by_cases h : nthD 0 (bs s) 0 = c.toNat ∧ 0 < s.size
  · rw [if_pos h, dec_t h, hsz]
    exact Ev.fls rfl (Ev.tru (by simp; omega) (Ev.eq (by simp)))
  · rw [if_neg h, dec_f h]
    exact Ev.tru rfl Ev.pure

/-- Zeros ahead taken off. -/
theorem trim_byte (c : UInt8) : ∀ (n : Nat) (s : ByteArray), s.size = n → ∃ t, Ev (fun k => strings_trimLeftByte.p0 k s c.toNat) t ∧ bs t = (bs s).dropWhile (· == (c.toNat : Int)) := by
  intro n
  induction n with
  | zero =>
    intro s hs
    refine ⟨s, Ev.turn (fun k => strings_trimLeftByte.p0_succ k _ _) ?_, ?_⟩
    · unfold strings_trimLeftByte.e0
      exact Ev.fls (dec_f (by omega)) (Ev.turn (fun k => strings_trimLeftByte.p7_succ k _) Ev.pure)
    · have : bs s = [] := List.length_eq_zero_iff.1 (by rw [bs_length]; exact hs)
      rw [this]; rfl
  | succ n ih =>
    intro s hs
    have hl := bs_length s
    have hcons : bs s = nthD 0 (bs s) 0 :: (bs s).drop 1 := by
      have h1 := List.drop_eq_getElem_cons (l := bs s) (i := 0) (by omega)
      rw [List.drop_zero] at h1
      rw [nthD_eq, List.getD_eq_getElem?_getD, List.getElem?_eq_getElem (by omega)]
      exact h1
    by_cases h : nthD 0 (bs s) 0 = c.toNat
    · have hsz : (s.extract 1 s.size).size = n := by rw [ByteArray.size_extract]; omega
      obtain ⟨t, h1, h2⟩ := ih (s.extract 1 s.size) hsz
      refine ⟨t, Ev.turn (fun k => strings_trimLeftByte.p0_succ k _ _) ?_, ?_⟩
      · unfold strings_trimLeftByte.e0
        rw [bs_btI0]
        exact Ev.tru (dec_t (by omega)) (Ev.tru (dec_t (by omega)) (Ev.tru (dec_t h) (Ev.tru (by simp; omega) h1)))
      · rw [h2, bs_extract, ← hl, List.take_length]
        conv => rhs; rw [hcons]
        rw [List.dropWhile_cons, if_pos (by simpa using h)]
    · refine ⟨s, Ev.turn (fun k => strings_trimLeftByte.p0_succ k _ _) ?_, ?_⟩
      · unfold strings_trimLeftByte.e0
        rw [bs_btI0]
        exact Ev.tru (dec_t (by omega)) (Ev.tru (dec_t (by omega)) (Ev.fls (dec_f h) (Ev.turn (fun k => strings_trimLeftByte.p7_succ k _) Ev.pure)))
      · conv => rhs; rw [hcons]
        rw [List.dropWhile_cons, if_neg (by simpa using h)]
        exact hcons

theorem trim_zero (s : ByteArray) : ∃ t, Ev (fun k => strings_TrimLeft.f k s (ByteArray.mk #[48])) t ∧ bs t = (bs s).dropWhile (· == 48) := by
  have hnil : bs (ByteArray.mk #[]) = [] := rfl
  have h48 : bs (ByteArray.mk #[48]) = [48] := rfl
  have hb0 : btI (ByteArray.mk #[48]) (0 : Int) = 48 := by decide
  have hsz : (ByteArray.mk #[48]).size = 1 := rfl
  by_cases h : bs s = []
  · refine ⟨s, ?_, by rw [h]; rfl⟩
    unfold strings_TrimLeft.f strings_TrimLeft.e
    rw [beq_bs, hnil]
    exact Ev.tru (dec_t h) (Ev.turn (fun k => strings_TrimLeft.p5_succ k _) Ev.pure)
  · obtain ⟨t, h1, h2⟩ := trim_byte 48 s.size s rfl
    refine ⟨t, ?_, h2⟩
    unfold strings_TrimLeft.f strings_TrimLeft.e
    rw [beq_bs, beq_bs, hnil, h48, hb0, hsz]
    refine Ev.fls (dec_f h) (Ev.fls (by simp) (Ev.tru (by simp) (Ev.tru (by simp) (Ev.tru (by simp) (Ev.tru (by simp) ?_)))))
    refine Ev.bind (?_ : Ev (fun k => strings_trimLeftByte.f k s 48) t) Ev.pure
    unfold strings_trimLeftByte.f strings_trimLeftByte.e
    exact h1

/-! ### Powers of ten -/
theorem pow_p0 (M : Nat) (hM : M ≤ 17592186044415) (R : Nat) (hR : L R ≤ M) : ∀ (N n : Nat) (acc base : Nat), n ≤ N → n ≤ 4096 → 0 < acc → 0 < base → acc * base ^ n = R → L base ≤ M → L acc ≤ M →
    Ev (fun k => nat_Pow.p0 k (n : Int) (lim acc) (lim base)) (lim R, (0 : Int)) := by
  intro N
  induction N with
  | zero =>
    intro n acc base hn _ _ _ hr _ _
    obtain rfl : n = 0 := by omega
    refine Ev.turn (fun k => nat_Pow.p0_succ k _ _ _) ?_
    unfold nat_Pow.e0
    rw [Nat.pow_zero, Nat.mul_one] at hr
    subst hr
    exact Ev.fls (by simp) Ev.pure
  | succ N ih =>
    intro n acc base hn h4 ha hb hr hLb hLa
    refine Ev.turn (fun k => nat_Pow.p0_succ k _ _ _) ?_
    unfold nat_Pow.e0
    by_cases h0 : n = 0
    · subst h0
      rw [Nat.pow_zero, Nat.mul_one] at hr
      subst hr
      exact Ev.fls (by simp) Ev.pure
    have hna : Nt M (lim acc) acc := Nt.of hLa
    have hnb : Nt M (lim base) base := Nt.of hLb
    have htm : Int.tmod (n : Int) 2 = ((n % 2 : Nat) : Int) := by rw [Int.tmod_eq_emod_of_nonneg (by omega)]; omega
    have htd : Int.tdiv (n : Int) 2 = ((n / 2 : Nat) : Int) := by rw [Int.tdiv_eq_ediv_of_nonneg (by omega)]; omega
    have hmod : n = 2 * (n / 2) + n % 2 := by omega
    -- the step behind the factor
    have hnext : ∀ acc' : Nat, 0 < acc' → acc' * (base * base) ^ (n / 2) = R → L acc' ≤ M → Ev (fun k => nat_Pow.p19 k (n : Int) (lim acc') (lim base)) (lim R, (0 : Int)) := by
      intro acc' ha' hr' hL'
      refine Ev.turn (fun k => nat_Pow.p19_succ k _ _ _) ?_
      unfold nat_Pow.e19
      have h13 : ∀ b' : Nat, 0 < b' → acc' * b' ^ (n / 2) = R → L b' ≤ M → Ev (fun k => nat_Pow.p13 k (n : Int) (lim acc') (lim b')) (lim R, (0 : Int)) := by
        intro b' hb' hr'' hLb'
        refine Ev.turn (fun k => nat_Pow.p13_succ k _ _ _) ?_
        unfold nat_Pow.e13
        rw [htd, wrap_i64 (by omega) (by omega)]
        exact ih (n / 2) acc' b' (by omega) (by omega) ha' hb' hr'' hLb' hL'
      by_cases h1 : 1 < n
      · have hLbb : L (base * base) ≤ M := by
          refine Nat.le_trans (L_mono ?_) hR
          rw [← hr']
          have : (base * base) ^ 1 ≤ (base * base) ^ (n / 2) := Nat.pow_le_pow_right (Nat.mul_pos hb hb) (by omega)
          rw [Nat.pow_one] at this
          exact Nat.le_trans this (Nat.le_mul_of_pos_left _ ha')
        exact Ev.tru (by simp; omega) (Ev.bind (hnb.mul hnb (by omega)) (h13 _ (Nat.mul_pos hb hb) hr' hLbb))
      · have : n / 2 = 0 := by omega
        rw [this, Nat.pow_zero] at hr'
        exact Ev.fls (by simp; omega) (h13 base hb (by rw [this, Nat.pow_zero]; exact hr') hLb)
    rw [htm]
    have hsq : (base * base) ^ (n / 2) = base ^ (2 * (n / 2)) := by rw [Nat.pow_mul, Nat.pow_two]
    refine Ev.tru (by simp; omega) ?_
    by_cases h2 : n % 2 = 1
    · have hr' : acc * base * (base * base) ^ (n / 2) = R := by
        rw [← hr, hsq, Nat.mul_assoc, ← Nat.pow_succ', show (2 * (n / 2)).succ = n by omega]
      have hLab : L (acc * base) ≤ M := by
        refine Nat.le_trans (L_mono ?_) hR
        rw [← hr']
        exact Nat.le_mul_of_pos_right _ (Nat.pow_pos (Nat.mul_pos hb hb))
      exact Ev.tru (by rw [h2]; rfl) (Ev.bind (hna.mul hnb (by omega)) (hnext _ (Nat.mul_pos ha hb) hr' hLab))
    · have : n % 2 = 0 := by omega
      refine Ev.fls (by rw [this]; rfl) (hnext acc ha ?_ hLa)
      rw [hsq, show 2 * (n / 2) = n by omega]
      exact hr

theorem L_ten (n : Nat) : L (10 ^ n) ≤ n + 1 := by
  apply L_le
  rw [Nat.pow_succ]
  have : 10 ^ n ≤ 4294967296 ^ n := Nat.pow_le_pow_left (by omega) n
  have h2 : 0 < 4294967296 ^ n := Nat.pow_pos (by omega)
  omega

theorem pow_ev {n : Nat} (hn : n ≤ 4096) : Ev (fun k => nat_Pow.f k [10] (n : Int)) (lim (10 ^ n), (0 : Int)) := by
  unfold nat_Pow.f nat_Pow.e
  have h10 : Nt 1 [10] 10 := Nt.one (by simp [B])
  have e1 : ([1] : List Int) = lim 1 := lim_one.symm
  refine Ev.fls (by simp) (Ev.fls (by simp; omega) (Ev.bind (h10.own (by omega)) ?_))
  rw [e1]
  have h1 := L_ten n
  exact pow_p0 5000 (by omega) (10 ^ n) (by omega) n n 1 10 (Nat.le_refl _) hn (by omega) (by omega) (by rw [Nat.one_mul]) (by have := L_small (n := 10) (by omega); omega) (by rw [L_one]; omega)

end Go.FK
