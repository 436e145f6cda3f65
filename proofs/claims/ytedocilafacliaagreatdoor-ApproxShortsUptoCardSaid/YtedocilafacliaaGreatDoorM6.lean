import Derived.Test.YtedocilafacliaaGreatDoorM5
import Derived.Test.YtedocilafacliaaGreatDoorM4
import Derived.Test.YtedocilafacliaaGreatDoorM3

/- Rounding: what stands near to a float is rounded to it. -/
namespace Go.FK
open Flt
set_option exponentiation.threshold 20000

/-- The float nearest to w, w not below 0. -/
def Rds (w : Rat) (b : Nat) : Prop := ∃ k a, Pl w k a ∧ nr k a = b

theorem pl_nonneg {w : Rat} (h : ¬ w < 0) {k : Nat} {a : Int} : Pl w k a ↔ At (w * (TT : Rat)) k a := by
  show At (w.abs * (TT : Rat)) k a ↔ _
  rw [abs_if, if_neg h]

theorem Rds.unique {w : Rat} {b c : Nat} (h : Rds w b) (g : Rds w c) : b = c := by
  obtain ⟨k, a, h1, rfl⟩ := h
  obtain ⟨k', a', h2, rfl⟩ := g
  obtain ⟨rfl, rfl⟩ := h1.unique h2
  rfl

theorem Rds.mono {w v : Rat} (hw : ¬ w < 0) (hwv : w ≤ v) {b c : Nat} (h : Rds w b) (g : Rds v c) : b ≤ c := by
  obtain ⟨k, a, h1, rfl⟩ := h
  obtain ⟨k', a', h2, rfl⟩ := g
  have hv : ¬ v < 0 := by grind
  rw [pl_nonneg hw] at h1
  rw [pl_nonneg hv] at h2
  have n1 := nr_le (k := k) (a := a)
  have n2 := nr_le (k := k') (a := a')
  rcases h1.mono h2 (Rat.mul_le_mul_of_nonneg_right hwv (Rat.le_of_lt TT_posR)) with hlt | ⟨rfl, hle⟩
  · omega
  · have := h2.cases
    exact nr_mono hle (by omega)

theorem U_gap (k : Nat) : U (k + 1) ≤ U k + 2 ^ eOf k ∧ U k + 2 ^ eOf k ≤ U (k + 1) ∧ U k < 9007199254740992 * 2 ^ eOf k ∧ U (k + 1) ≤ 9007199254740992 * 2 ^ eOf k := by
  have h1 := U_succ k
  have h2 := U_parts k
  have h3 := U_next k
  have h4 := (parts_ok k).2
  have hp : 0 < 2 ^ eOf k := Nat.two_pow_pos _
  refine ⟨by omega, by omega, ?_, ?_⟩
  · rw [h2]; exact Nat.mul_lt_mul_of_pos_right h4 hp
  · rw [h3]; exact Nat.mul_le_mul_right _ (by omega)

/-- What lies nearer to a float than its 2 times 10 to the 16th part is rounded to it. -/
theorem near_rds {b : Nat} (hb0 : 0 < b) (hb : b ≤ 9218868437227405311) {w : Rat} (hw : ¬ w < 0)
    (h1 : (w * (TT : Rat) - (U b : Rat)) * 20000000000000000 ≤ (U b : Rat)) (h2 : ((U b : Rat) - w * (TT : Rat)) * 20000000000000000 ≤ (U b : Rat)) : Rds w b := by
  obtain ⟨c, rfl⟩ : ∃ c, b = c + 1 := ⟨b - 1, by omega⟩
  have hy0 : (0 : Rat) ≤ w * (TT : Rat) := Rat.mul_nonneg (Rat.not_lt.1 hw) (Rat.le_of_lt TT_posR)
  obtain ⟨g1, g2, g3, g4⟩ := U_gap (c + 1)
  obtain ⟨l1, l2, l3, l4⟩ := U_gap c
  have hup : (9007199254740992 : Rat) * ((U (c + 1 + 1) : Rat) - (U (c + 1) : Rat)) ≥ (U (c + 1) : Rat) := by
    have : U (c + 1) + 9007199254740992 * U (c + 1) ≤ 9007199254740992 * U (c + 1 + 1) := by omega
    have h' : (((U (c + 1) + 9007199254740992 * U (c + 1) : Nat) : Nat) : Rat) ≤ ((9007199254740992 * U (c + 1 + 1) : Nat) : Rat) := by exact_mod_cast this
    rw [Rat.natCast_add, Rat.natCast_mul, Rat.natCast_mul] at h'
    have e : ((9007199254740992 : Nat) : Rat) = (9007199254740992 : Rat) := rfl
    rw [e] at h'
    grind
  have hdn : (9007199254740992 : Rat) * ((U (c + 1) : Rat) - (U c : Rat)) ≥ (U (c + 1) : Rat) := by
    have : U (c + 1) + 9007199254740992 * U c ≤ 9007199254740992 * U (c + 1) := by omega
    have h' : (((U (c + 1) + 9007199254740992 * U c : Nat) : Nat) : Rat) ≤ ((9007199254740992 * U (c + 1) : Nat) : Rat) := by exact_mod_cast this
    rw [Rat.natCast_add, Rat.natCast_mul, Rat.natCast_mul] at h'
    have e : ((9007199254740992 : Nat) : Rat) = (9007199254740992 : Rat) := rfl
    rw [e] at h'
    grind
  have hpos : (0 : Rat) < (U (c + 1) : Rat) := by
    have : 0 < U (c + 1) := Nat.lt_of_le_of_lt (Nat.zero_le _) (U_lt_succ c)
    exact_mod_cast this
  have hc0 : (0 : Rat) ≤ (U c : Rat) := Rat.natCast_nonneg
  obtain ⟨y, hy⟩ : ∃ y, w * (TT : Rat) = y := ⟨_, rfl⟩
  rw [hy] at h1 h2 hy0
  unfold Rds
  by_cases h : y < (U (c + 1) : Rat)
  · refine ⟨c, 2, (pl_nonneg hw).2 ?_, by unfold nr; simp⟩
    rw [hy]
    have hmid : (U c : Rat) + U (c + 1) < 2 * y := by grind
    exact ⟨by omega, by grind, Or.inr h, Or.inr (Or.inr (Or.inr ⟨rfl, by grind, hmid⟩))⟩
  · by_cases he : (U (c + 1) : Rat) = y
    · refine ⟨c + 1, -1, (pl_nonneg hw).2 ?_, by unfold nr; simp⟩
      rw [hy]
      exact ⟨hb, by grind, Or.inr (by grind), Or.inl ⟨rfl, he⟩⟩
    · refine ⟨c + 1, 0, (pl_nonneg hw).2 ?_, by unfold nr; simp⟩
      rw [hy]
      have hmid : 2 * y < (U (c + 1) : Rat) + U (c + 1 + 1) := by grind
      exact ⟨hb, by grind, Or.inr (by grind), Or.inr (Or.inl ⟨rfl, by grind, hmid⟩)⟩

/-! ### Where a float's number stands among the powers of ten -/
theorem p10_lt {a b : Int} (h : a < b) : p10 a < p10 b := by
  obtain ⟨j, hj⟩ : ∃ j : Nat, b = a + ((j + 1 : Nat) : Int) := ⟨(b - a - 1).toNat, by omega⟩
  rw [hj, p10_add_nat]
  have h0 := p10_pos a
  have h1 : (1 : Rat) < ((10 ^ (j + 1) : Nat) : Rat) := by
    have : 1 < 10 ^ (j + 1) := by
      rw [Nat.pow_succ]
      have := Nat.pow_pos (n := j) (by omega : 0 < 10)
      omega
    exact_mod_cast this
  have := Rat.mul_lt_mul_of_pos_left h1 h0
  rwa [Rat.mul_one] at this
theorem p10_le {a b : Int} (h : a ≤ b) : p10 a ≤ p10 b := by
  by_cases e : a = b
  · subst e; exact Rat.le_refl
  · exact Rat.le_of_lt (p10_lt (by omega))

end Go.FK


/- Seventeen digits are enough; the power of ten that a float's number stands at; which of two neighbours is taken. -/
namespace Go.FK
open Flt
set_option exponentiation.threshold 20000

theorem le_of_mul {a b c : Rat} (hc : 0 < c) (h : a * c ≤ b * c) : a ≤ b := by
  rw [← Rat.not_lt] at h ⊢
  exact fun h' => h ((Rat.mul_lt_mul_right hc).2 h')
theorem num_mul_TT (b : Nat) : num false b * (TT : Rat) = (U b : Rat) := by rw [num_TT, S_false]
theorem U_pos {b : Nat} (h : 0 < b) : 0 < U b := by
  obtain ⟨c, rfl⟩ : ∃ c, b = c + 1 := ⟨b - 1, by omega⟩
  exact Nat.lt_of_le_of_lt (Nat.zero_le _) (U_lt_succ c)
theorem num_pos {b : Nat} (h : 0 < b) : 0 < num false b := by
  have h1 := num_mul_TT b
  have h2 : (0 : Rat) < (U b : Rat) := by exact_mod_cast U_pos h
  rw [← h1] at h2
  have h3 : (0 : Rat) * (TT : Rat) < num false b * (TT : Rat) := by rw [Rat.zero_mul]; exact h2
  exact (Rat.mul_lt_mul_right TT_posR).1 h3

/-- A number of seventeen digits next to a float is rounded to it. -/
theorem near17 {b : Nat} (hb0 : 0 < b) (hb : b ≤ 9218868437227405311) {top : Int} (ht : p10 top ≤ num false b) {w : Rat} (hw : ¬ w < 0)
    (h1 : (w - num false b) * 2 ≤ p10 (top - 16)) (h2 : (num false b - w) * 2 ≤ p10 (top - 16)) : Rds w b := by
  have hp := p10_add_nat (top - 16) 16
  rw [show top - 16 + ((16 : Nat) : Int) = top by omega, show ((10 ^ 16 : Nat) : Rat) = (10000000000000000 : Rat) from rfl] at hp
  have hU := num_mul_TT b
  have hT := TT_posR
  refine near_rds hb0 hb hw ?_ ?_
  · have h3 : (w - num false b) * 2 * 10000000000000000 ≤ num false b := by
      have := Rat.mul_le_mul_of_nonneg_right h1 (show (0 : Rat) ≤ 10000000000000000 by decide)
      grind
    have := Rat.mul_le_mul_of_nonneg_right h3 (Rat.le_of_lt hT)
    rw [hU] at this
    grind
  · have h3 : (num false b - w) * 2 * 10000000000000000 ≤ num false b := by
      have := Rat.mul_le_mul_of_nonneg_right h2 (show (0 : Rat) ≤ 10000000000000000 by decide)
      grind
    have := Rat.mul_le_mul_of_nonneg_right h3 (Rat.le_of_lt hT)
    rw [hU] at this
    grind

theorem U_top {b : Nat} (hb : b ≤ 9218868437227405311) : U b < 2 ^ 2098 := by
  have h := U_mono hb
  have e : U 9218868437227405311 = (2 ^ 53 - 1) * 2 ^ 2045 := by decide +kernel
  rw [e] at h
  have : (2 ^ 53 - 1) * 2 ^ 2045 < 2 ^ 2098 := by decide +kernel
  omega

theorem top_exists {b : Nat} (hb0 : 0 < b) (hb : b ≤ 9218868437227405311) : ∃ top : Int, -324 ≤ top ∧ top ≤ 308 ∧ p10 top ≤ num false b ∧ num false b < p10 (top + 1) := by
  have hU := num_mul_TT b
  have hT := TT_posR
  have h1 : (1 : Rat) ≤ (U b : Rat) := by exact_mod_cast U_pos hb0
  have h2 : (U b : Rat) < ((2 ^ 2098 : Nat) : Rat) := by exact_mod_cast U_top hb
  have hlo : p10 (-324) ≤ num false b := by
    have h3 := p10_negs 324
    have h4 : (TT : Rat) ≤ ((10 ^ 324 : Nat) : Rat) := by
      have : TT ≤ 10 ^ 324 := by decide +kernel
      exact_mod_cast this
    have h5 := p10_pos (-((324 : Nat) : Int))
    rw [show (-324 : Int) = -((324 : Nat) : Int) from rfl]
    have h6 : p10 (-((324 : Nat) : Int)) * (TT : Rat) ≤ num false b * (TT : Rat) := by
      rw [hU]
      have := Rat.mul_le_mul_of_nonneg_left h4 (Rat.le_of_lt h5)
      rw [h3] at this
      grind
    exact le_of_mul hT h6
  have hhi : num false b < p10 309 := by
    have h4 : ((2 ^ 2098 : Nat) : Rat) ≤ ((10 ^ 309 : Nat) : Rat) * (TT : Rat) := by
      have : 2 ^ 2098 ≤ 10 ^ 309 * TT := by decide +kernel
      rw [← Rat.natCast_mul]
      exact_mod_cast this
    have h6 : num false b * (TT : Rat) < p10 309 * (TT : Rat) := by
      rw [hU, show (309 : Int) = ((309 : Nat) : Int) from rfl, p10_nat]
      grind
    exact (Rat.mul_lt_mul_right hT).1 h6
  have search : ∀ n : Nat, ∀ e : Int, e + n = 309 → -324 ≤ e → p10 e ≤ num false b → ∃ top : Int, -324 ≤ top ∧ top ≤ 308 ∧ p10 top ≤ num false b ∧ num false b < p10 (top + 1) := by
    intro n
    induction n with
    | zero =>
      intro e he _ hp
      rw [show e = 309 by omega] at hp
      exact absurd hhi (Rat.not_lt.2 hp)
    | succ n ih =>
      intro e he hle hp
      by_cases h : p10 (e + 1) ≤ num false b
      · exact ih (e + 1) (by omega) (by omega) h
      · exact ⟨e, hle, by omega, hp, Rat.not_le.1 h⟩
  exact search 633 (-324) (by omega) (by omega) hlo

/-- A float's number stands at one power of ten alone. -/
theorem top_of {r : Rat} {top e : Int} (h1 : p10 top ≤ r) (h2 : r < p10 (top + 1)) : p10 e ≤ r ↔ e ≤ top := by
  constructor
  · intro h
    rcases Int.lt_or_le top e with h' | h'
    · have := p10_le (show top + 1 ≤ e by omega)
      grind
    · exact h'
  · intro h
    have := p10_le h
    grind

theorem guess_ok : ∀ n, n < 2300 → 10 ^ (n * 30103 / 100000) * 2 ^ 1101 ≤ 2 ^ n * 10 ^ 334 := by decide +kernel

/-- The reference's first guess is not too great. -/
theorem guess_le {r : Rat} {N D nb db : Nat} (hr : r * (D : Rat) = (N : Rat)) (hnb : 2 ^ nb ≤ 2 * N) (hdb : D ≤ 2 ^ db) (hr0 : 0 ≤ r) {n : Nat} (hn : n + db = nb + 1100) (hlt : n < 2300) :
    p10 (((n * 30103 / 100000 : Nat) : Int) - 334) ≤ r := by
  have hg := guess_ok n hlt
  generalize n * 30103 / 100000 = q at *
  have hp := p10_add_nat ((q : Int) - 334) 334
  rw [show (q : Int) - 334 + ((334 : Nat) : Int) = (q : Int) by omega, p10_nat] at hp
  -- everything times 10^334 * 2^1101 * 2^db
  have e1 : 10 ^ q * 2 ^ 1101 * 2 ^ db ≤ 2 ^ nb * 2 ^ 1100 * 10 ^ 334 := by
    have h1 := Nat.mul_le_mul_right (2 ^ db) hg
    have h2 : 2 ^ n * 10 ^ 334 * 2 ^ db = 2 ^ nb * 2 ^ 1100 * 10 ^ 334 := by
      rw [Nat.mul_right_comm, ← Nat.pow_add, hn, Nat.pow_add]
    rw [h2] at h1
    exact h1
  have e2 : 10 ^ q * 2 ^ 1101 * 2 ^ db ≤ N * 2 ^ 1101 * 10 ^ 334 := by
    refine Nat.le_trans e1 ?_
    have h1 : 2 ^ nb * 2 ^ 1100 ≤ 2 * N * 2 ^ 1100 := Nat.mul_le_mul_right _ hnb
    have h2 : 2 * N * 2 ^ 1100 = N * 2 ^ 1101 := by
      rw [show (1101 : Nat) = 1100 + 1 from rfl, Nat.pow_succ, Nat.mul_comm 2 N, Nat.mul_assoc, Nat.mul_comm 2]
    rw [h2] at h1
    exact Nat.mul_le_mul_right _ h1
  have e3 : 10 ^ q * 2 ^ db ≤ N * 10 ^ 334 := by
    have h1 : 10 ^ q * 2 ^ db * 2 ^ 1101 ≤ N * 10 ^ 334 * 2 ^ 1101 := by
      rw [Nat.mul_right_comm, Nat.mul_right_comm N]; exact e2
    exact Nat.le_of_mul_le_mul_right h1 (Nat.two_pow_pos _)
  have e4 : ((10 ^ q : Nat) : Rat) * ((2 ^ db : Nat) : Rat) ≤ (N : Rat) * ((10 ^ 334 : Nat) : Rat) := by
    rw [← Rat.natCast_mul, ← Rat.natCast_mul]; exact_mod_cast e3
  have e5 : (N : Rat) ≤ r * ((2 ^ db : Nat) : Rat) := by
    rw [← hr]
    exact Rat.mul_le_mul_of_nonneg_left (by exact_mod_cast hdb) hr0
  have hA : (0 : Rat) < ((10 ^ 334 : Nat) : Rat) := by exact_mod_cast Nat.pow_pos (by omega)
  have hB : (0 : Rat) < ((2 ^ db : Nat) : Rat) := by exact_mod_cast Nat.two_pow_pos db
  rw [hp] at e4
  generalize ((10 ^ 334 : Nat) : Rat) = A at *
  generalize ((2 ^ db : Nat) : Rat) = B at *
  generalize p10 ((q : Int) - 334) = P at *
  have e6 : P * (A * B) ≤ r * (A * B) := by
    have := Rat.mul_le_mul_of_nonneg_right e5 (Rat.le_of_lt hA)
    grind
  exact le_of_mul (Rat.mul_pos hA hB) e6

/-! ### The digits that are taken -/
open Classical in
/-- The float nearest to w, w not below 0. -/
noncomputable def nrw (w : Rat) : Nat := if h : ∃ c, Rds w c then Classical.choose h else 0
theorem nrw_eq {w : Rat} {c : Nat} (h : Rds w c) : nrw w = c := by
  unfold nrw
  have hx : ∃ c, Rds w c := ⟨c, h⟩
  rw [dif_pos hx]
  exact (Classical.choose_spec hx).unique h

end Go.FK


/- Short: texts of floats, walked; the digits that are taken. -/
namespace Go.FK
open Flt
set_option exponentiation.threshold 20000

/-! ### Numerals -/
theorem dd_small {u : Nat} (h : u < 10) : dd u = [48 + (u : Int)] := by
  unfold dd
  by_cases h0 : u = 0
  · subst h0; rfl
  · rw [if_neg h0, dg_pos h0, chr_eq _ (Nat.mod_lt _ (by omega)), show u / 10 = 0 by omega, dg_zero, show u % 10 = u by omega]
    rfl
theorem dd_big {u : Nat} (h : 10 ≤ u) : dd u = dd (u / 10) ++ [48 + ((u % 10 : Nat) : Int)] := by
  unfold dd
  rw [if_neg (by omega), if_neg (by omega), dg_pos (by omega), List.reverse_cons, chr_eq _ (Nat.mod_lt _ (by omega))]
theorem dec_dd : ∀ u : Nat, (Go.Lib.decDigits u).map (fun b => (b.toNat : Int)) = dd u := by
  intro u
  induction u using Nat.strongRecOn with
  | _ u ih =>
    rw [Go.Lib.decDigits]
    by_cases h : u < 10
    · rw [dif_pos h, dd_small h]
      simp only [List.map_cons, List.map_nil, UInt8.toNat_ofNat']
      congr 1
      have : (48 + u) % 2 ^ 8 = 48 + u := Nat.mod_eq_of_lt (by omega)
      rw [this]; omega
    · have e : (((UInt8.ofNat (48 + u % 10)).toNat : Nat) : Int) = 48 + ((u % 10 : Nat) : Int) := by
        rw [UInt8.toNat_ofNat']
        have : (48 + u % 10) % 2 ^ 8 = 48 + u % 10 := Nat.mod_eq_of_lt (by omega)
        rw [this]; omega
      rw [dif_neg h, List.map_append, ih (u / 10) (by omega), dd_big (u := u) (by omega), List.map_cons, List.map_nil, e]
theorem bs_itoa (e : Int) : bs ⟨(Go.Lib.itoa e).toArray⟩ = ed e := by
  unfold bs Go.Lib.itoa ed
  by_cases h : e < 0
  · rw [if_pos h, if_pos h]
    simp only [List.map_cons]
    rw [dec_dd]
    rfl
  · rw [if_neg h, if_neg h]
    simp only
    rw [dec_dd, show e.toNat = e.natAbs by omega]
theorem itoa_ev {e : Int} (h : -9223372036854775808 ≤ e ∧ e ≤ 9223372036854775807) : ∃ t, Ev (fun k => strconv_Itoa.f k e) t ∧ bs t = ed e := by
  refine ⟨_, ?_, bs_itoa e⟩
  unfold strconv_Itoa.f
  exact Ev.tru (by simp; omega) Ev.pure

theorem dd_len10 {n t : Nat} (h : n < 10 ^ t) (ht : 0 < t) : (dd n).length ≤ t := by
  unfold dd
  split
  · simp; omega
  · rw [List.length_reverse]; exact dd_length10 t n h
theorem ed_len {e : Int} (h : e.natAbs ≤ 5000) : (ed e).length ≤ 5 := by
  have := dd_len10 (n := e.natAbs) (t := 4) (by omega) (by omega)
  unfold ed
  split
  · rw [List.length_cons]; omega
  · omega
theorem sci_len (D : List Int) {e : Int} (h : e.natAbs ≤ 5000) : (sci D e).length ≤ D.length + 7 := by
  have := ed_len h
  unfold sci
  rw [List.length_append, List.length_cons]
  split
  · rw [List.length_append, List.length_take, List.length_cons, List.length_drop]; omega
  · omega

/-! ### Noughts at the end -/
theorem strip_snoc (l : List Int) (c : Int) : strip (l ++ [c]) = if c = 48 then strip l else l ++ [c] := by
  unfold strip
  rw [List.reverse_append, List.reverse_singleton, List.singleton_append, List.dropWhile_cons]
  by_cases h : c = 48
  · subst h; simp
  · have : (c == 48) = false := by simpa using h
    rw [if_neg h, this]
    simp
theorem snoc_at {l : List Int} {n : Nat} (h : l.length = n + 1) : l = l.take n ++ [nthD 0 l n] := by
  have h1 := take_succ_get (a := l) (n := n) (by omega)
  rw [← h1, List.take_of_length_le (by omega)]

theorem trimr_byte : ∀ (n : Nat) (s : ByteArray), s.size = n → n ≤ 1073741824 → ∃ t, Ev (fun k => strings_trimRightByte.p0 k s 48) t ∧ bs t = strip (bs s) := by
  intro n
  induction n with
  | zero =>
    intro s hs _
    refine ⟨s, Ev.turn (fun k => strings_trimRightByte.p0_succ k _ _) ?_, ?_⟩
    · unfold strings_trimRightByte.e0
      exact Ev.fls (dec_f (by omega)) (Ev.turn (fun k => strings_trimRightByte.p7_succ k _) Ev.pure)
    · rw [bs_nil hs]; rfl
  | succ n ih =>
    intro s hs hn
    have hl := bs_length s
    have hsn := snoc_at (l := bs s) (n := n) (by omega)
    have w : IntKind.i64.wrap ((s.size : Int) - 1) = ((n : Nat) : Int) := by rw [wrap_i64 (by omega) (by omega)]; omega
    by_cases h : nthD 0 (bs s) n = 48
    · have hsz : (s.extract 0 n).size = n := by rw [ByteArray.size_extract]; omega
      obtain ⟨t, h1, h2⟩ := ih (s.extract 0 n) hsz (by omega)
      refine ⟨t, Ev.turn (fun k => strings_trimRightByte.p0_succ k _ _) ?_, ?_⟩
      · unfold strings_trimRightByte.e0
        rw [w, bs_btI]
        exact Ev.tru (dec_t (by omega)) (Ev.tru (by simp; omega) (Ev.tru (dec_t h) (Ev.tru (by simp; omega) (by simpa using h1))))
      · rw [h2, bs_extract, List.drop_zero]
        conv => rhs; rw [hsn, h, strip_snoc, if_pos rfl]
    · refine ⟨s, Ev.turn (fun k => strings_trimRightByte.p0_succ k _ _) ?_, ?_⟩
      · unfold strings_trimRightByte.e0
        rw [w, bs_btI]
        exact Ev.tru (dec_t (by omega)) (Ev.tru (by simp; omega) (Ev.fls (dec_f h) (Ev.turn (fun k => strings_trimRightByte.p7_succ k _) Ev.pure)))
      · conv => rhs; rw [hsn, strip_snoc, if_neg h]
        exact hsn

theorem trimr_ev (s : ByteArray) (hs : s.size ≤ 1073741824) : ∃ t, Ev (fun k => strings_TrimRight.f k s (ByteArray.mk #[48])) t ∧ bs t = strip (bs s) := by
  have hnil : bs (ByteArray.mk #[]) = [] := rfl
  have h48 : bs (ByteArray.mk #[48]) = [48] := rfl
  have hb0 : btI (ByteArray.mk #[48]) (0 : Int) = 48 := by decide
  have hsz : (ByteArray.mk #[48]).size = 1 := rfl
  by_cases h : bs s = []
  · refine ⟨s, ?_, by rw [h]; rfl⟩
    unfold strings_TrimRight.f strings_TrimRight.e
    rw [beq_bs, hnil]
    exact Ev.tru (dec_t h) (Ev.turn (fun k => strings_TrimRight.p5_succ k _) Ev.pure)
  · obtain ⟨t, h1, h2⟩ := trimr_byte s.size s rfl hs
    refine ⟨t, ?_, h2⟩
    unfold strings_TrimRight.f strings_TrimRight.e
    rw [beq_bs, beq_bs, hnil, h48, hb0, hsz]
    refine Ev.fls (dec_f h) (Ev.fls (by simp) (Ev.tru (by simp) (Ev.tru (by simp) (Ev.tru (by simp) (Ev.tru (by simp) ?_)))))
    refine Ev.bind (?_ : Ev (fun k => strings_trimRightByte.f k s 48) t) Ev.pure
    unfold strings_trimRightByte.f strings_trimRightByte.e
    exact h1

theorem max64 : IntKind.i64.max = 9223372036854775807 := by decide

/-- The program's text of digits. -/
theorem text_ev {s : ByteArray} (hs : s.size ≤ 1000) {e : Int} (he : e.natAbs ≤ 5000) : ∃ t, Ev (fun k => approx_text.f k s e) t ∧ bs t = sci (strip (bs s)) e := by
  obtain ⟨r, h1, h2⟩ := trimr_ev s (by omega)
  obtain ⟨i, h3, h4⟩ := itoa_ev (e := e) (by omega)
  have hl := bs_length r
  have hle := strip_le (bs s)
  rw [← h2, bs_length, bs_length] at hle
  have h101 : bs (ByteArray.mk #[101]) = [101] := rfl
  have h46 : bs (ByteArray.mk #[46]) = [46] := rfl
  have s101 : (ByteArray.mk #[101]).size = 1 := rfl
  have s46 : (ByteArray.mk #[46]).size = 1 := rfl
  have hil : i.size ≤ 5 := by rw [← bs_length, h4]; exact ed_len he
  have p9 : ∀ x : ByteArray, x.size ≤ 2000 → Ev (fun k => approx_text.p9 k x e) ((x ++ ByteArray.mk #[101]) ++ i) := by
    intro x hx
    refine Ev.turn (fun k => approx_text.p9_succ k _ _) ?_
    unfold approx_text.e9
    have hsz : (x ++ ByteArray.mk #[101]).size = x.size + 1 := by rw [← bs_length, bs_append, List.length_append, bs_length, h101]; rfl
    refine Ev.fls (dec_f (by rw [max64, s101]; omega)) (Ev.bind h3 (Ev.fls (dec_f (by rw [max64, hsz]; omega)) Ev.pure))
  unfold approx_text.f approx_text.e
  rw [← h2]
  by_cases h : 1 < r.size
  · have hx : (r.extract (Int.toNat (0 : Int)) (Int.toNat (1 : Int))).size = 1 := by rw [ByteArray.size_extract]; simp; omega
    have hxb : bs (r.extract (Int.toNat (0 : Int)) (Int.toNat (1 : Int))) = (bs r).take 1 := by rw [bs_extract]; simp
    have hy : (r.extract (Int.toNat (1 : Int)) (Int.toNat (r.size : Int))).size = r.size - 1 := by rw [ByteArray.size_extract]; simp
    have hyb : bs (r.extract (Int.toNat (1 : Int)) (Int.toNat (r.size : Int))) = (bs r).drop 1 := by rw [bs_extract, Int.toNat_natCast, ← hl, List.take_length]; rfl
    have hxs : (r.extract (Int.toNat (0 : Int)) (Int.toNat (1 : Int)) ++ ByteArray.mk #[46]).size = 2 := by rw [← bs_length, bs_append, List.length_append, bs_length, hx, h46]; rfl
    refine ⟨_, Ev.bind h1 (Ev.tru (dec_t (by omega)) (Ev.tru (by simp; omega) (Ev.fls (dec_f (by rw [max64, hx, s46]; omega)) (Ev.tru (by simp; omega) (Ev.fls (dec_f (by rw [max64, hxs, hy]; omega)) (p9 _ ?_)))))), ?_⟩
    · rw [← bs_length, bs_append, List.length_append, bs_length, bs_length, hxs, hy]; omega
    · unfold sci
      rw [if_pos (by omega), bs_append, bs_append, bs_append, bs_append, hxb, hyb, h46, h101, h4]
      simp
  · refine ⟨_, Ev.bind h1 (Ev.fls (dec_f (by omega)) (p9 r (by omega))), ?_⟩
    unfold sci
    rw [if_neg (by omega), bs_append, bs_append, h101, h4]
    simp

/-! ### Reading such a text -/
theorem Rds.of_pl {w : Rat} {k : Nat} {a : Int} (h : Pl w k a) : Rds w (nr k a) := ⟨k, a, h, rfl⟩

/-- A text of a number's digits is read as the float nearest to it. -/
theorem read_sci {m : Nat} (hm : 0 < m) (hm2 : m < 10 ^ 30) {t : Int} (ht : (t + ((dd m).length : Int) - 1).natAbs ≤ 5000) {s : ByteArray} (hb : bs s = sci (strip (dd m)) (t + ((dd m).length : Int) - 1)) :
    ∃ c, Rds (dv m t) c ∧ Ev (fun f => approx_Read.f f s) (c, (0 : Int)) := by
  obtain ⟨d, e, h1, h2, h3, h4⟩ := dspec_number hm ht
  rw [← hb] at h1 h3 h4
  have hdl := dd_len10 hm2 (by omega)
  have hsl := strip_le (dd m)
  have hsz : s.size ≤ 40 := by
    rw [← bs_length, hb]
    have := sci_len (strip (dd m)) ht
    omega
  rw [← h4] at h1
  have hds := dspec_some h1
  have hbl := dbody_len (bs s)
  rw [bs_length] at hbl
  obtain ⟨k, a, hp⟩ := pl_of d (e := e) (by omega) (by omega)
  have hr := aread_ev (s := s) (by omega) h1 hp
  rw [h3] at hr
  rw [h2] at hp
  refine ⟨nr k a, Rds.of_pl hp, ?_⟩
  have e1 : rdB false (dv d e) k a = nr k a := by
    unfold rdB nrB fb
    rw [if_neg (by simp), dec_f (dv_nonneg d e), if_neg (by simp)]
  rw [e1] at hr
  exact hr

/-! ### The digits that are taken -/
theorem qfl_le (q : Rat) : (qfloor q : Rat) ≤ q := by
  have : qfloor q = q.floor := (Rat.floor_def q).symm
  rw [this]; exact Rat.floor_le q
theorem lt_qfl (q : Rat) : q < (qfloor q : Rat) + 1 := by
  have h : qfloor q = q.floor := (Rat.floor_def q).symm
  rw [h]
  have := Rat.lt_floor_add_one q
  rwa [Rat.intCast_add] at this
theorem qfl_nonneg {q : Rat} (h : 0 ≤ q) : 0 ≤ qfloor q := by
  have e : qfloor q = q.floor := (Rat.floor_def q).symm
  rw [e]
  exact Rat.le_floor_iff.2 (by simpa using h)

/-- The next whole number of units below a number. -/
def lod (r : Rat) (t : Int) : Nat := (qfloor (r * (p10 t)⁻¹)).toNat

theorem lod_cast {r : Rat} (hr : 0 ≤ r) (t : Int) : ((lod r t : Nat) : Int) = qfloor (r * (p10 t)⁻¹) := by
  have h1 := Rat.le_of_lt (Rat.inv_pos.2 (p10_pos t))
  have := qfl_nonneg (Rat.mul_nonneg hr h1)
  unfold lod
  omega

theorem lod_spec {r : Rat} (hr : 0 ≤ r) (t : Int) : dv (lod r t) t ≤ r ∧ r < dv (lod r t + 1) t := by
  have hp := p10_pos t
  have hne : p10 t ≠ 0 := fun h => by rw [h] at hp; exact absurd hp Rat.lt_irrefl
  have h1 := qfl_le (r * (p10 t)⁻¹)
  have h2 := lt_qfl (r * (p10 t)⁻¹)
  rw [← lod_cast hr t, Rat.intCast_natCast] at h1 h2
  have e : r * (p10 t)⁻¹ * p10 t = r := by rw [Rat.mul_assoc, Rat.inv_mul_cancel _ hne, Rat.mul_one]
  unfold dv
  constructor
  · have := Rat.mul_le_mul_of_nonneg_right h1 (Rat.le_of_lt hp)
    rwa [e] at this
  · have := (Rat.mul_lt_mul_right hp).2 h2
    rw [e] at this
    rw [Rat.natCast_add]
    exact this

theorem dv_lt_iff {m n : Nat} {t : Int} : dv m t < dv n t ↔ m < n := by
  unfold dv
  rw [Rat.mul_lt_mul_right (p10_pos t)]
  exact Rat.natCast_lt_natCast
theorem dv_pow (n : Nat) (t : Int) : dv (10 ^ n) t = p10 (t + n) := by
  unfold dv
  rw [p10_add_nat, Rat.mul_comm]

/-- Of n digits. -/
theorem lod_digits {r : Rat} (hr : 0 ≤ r) {top : Int} (h1 : p10 top ≤ r) (h2 : r < p10 (top + 1)) {n : Nat} (hn : 1 ≤ n) : 10 ^ (n - 1) ≤ lod r (top - n + 1) ∧ lod r (top - n + 1) < 10 ^ n := by
  obtain ⟨g1, g2⟩ := lod_spec hr (top - n + 1)
  have e1 := dv_pow (n - 1) (top - n + 1)
  rw [show top - n + 1 + ((n - 1 : Nat) : Int) = top by omega] at e1
  have e2 := dv_pow n (top - n + 1)
  rw [show top - n + 1 + (n : Int) = top + 1 by omega] at e2
  constructor
  · have : dv (10 ^ (n - 1)) (top - n + 1) < dv (lod r (top - n + 1) + 1) (top - n + 1) := by rw [e1]; grind
    have := dv_lt_iff.1 this
    omega
  · have : dv (lod r (top - n + 1)) (top - n + 1) < dv (10 ^ n) (top - n + 1) := by rw [e2]; grind
    exact dv_lt_iff.1 this

open Classical in
/-- Which number of units is taken, if any. -/
noncomputable def pick (b : Nat) (r : Rat) (t : Int) : Option Nat :=
  if nrw (dv (lod r t) t) = b then
    if nrw (dv (lod r t + 1) t) = b then
      (if 2 * r < dv (2 * lod r t + 1) t ∨ (2 * r = dv (2 * lod r t + 1) t ∧ lod r t % 2 = 0) then some (lod r t) else some (lod r t + 1))
    else some (lod r t)
  else if nrw (dv (lod r t + 1) t) = b then some (lod r t + 1) else none

theorem pick_spec {b : Nat} {r : Rat} {t : Int} {m : Nat} (h : pick b r t = some m) : nrw (dv m t) = b ∧ (m = lod r t ∨ m = lod r t + 1) := by
  unfold pick at h
  split at h
  · rename_i h1
    split at h
    · rename_i h2
      split at h
      · cases h; exact ⟨h1, .inl rfl⟩
      · cases h; exact ⟨h2, .inr rfl⟩
    · cases h; exact ⟨h1, .inl rfl⟩
  · split at h
    · rename_i h2; cases h; exact ⟨h2, .inr rfl⟩
    · cases h
theorem pick_none {b : Nat} {r : Rat} {t : Int} (h : pick b r t = none) : nrw (dv (lod r t) t) ≠ b ∧ nrw (dv (lod r t + 1) t) ≠ b := by
  unfold pick at h
  split at h
  · split at h
    · split at h <;> cases h
    · cases h
  · rename_i h1
    split at h
    · cases h
    · rename_i h2; exact ⟨h1, h2⟩

/-- Seventeen digits are enough. -/
theorem pick17 {b : Nat} (hb0 : 0 < b) (hb : b ≤ 9218868437227405311) {top : Int} (h1 : p10 top ≤ num false b) : pick b (num false b) (top - 16) ≠ none := by
  intro h
  obtain ⟨n1, n2⟩ := pick_none h
  have hr0 := Rat.le_of_lt (num_pos hb0)
  obtain ⟨g1, g2⟩ := lod_spec hr0 (top - 16)
  have hs : dv (lod (num false b) (top - 16) + 1) (top - 16) = dv (lod (num false b) (top - 16)) (top - 16) + p10 (top - 16) := by
    unfold dv
    rw [Rat.natCast_add, Rat.add_mul]
    congr 1
    exact Rat.one_mul _
  have hp := p10_pos (top - 16)
  by_cases hc : (num false b - dv (lod (num false b) (top - 16)) (top - 16)) * 2 ≤ p10 (top - 16)
  · exact n1 (nrw_eq (near17 hb0 hb h1 (dv_nonneg _ _) (by grind) hc))
  · exact n2 (nrw_eq (near17 hb0 hb h1 (dv_nonneg _ _) (by grind) (by grind)))

end Go.FK


/- Short: the program's search. -/
namespace Go.FK
open Flt
set_option exponentiation.threshold 20000

theorem nbit_ev {M n : Nat} (_hM : M ≤ 35184372088832) (h : FK.L n ≤ M) : Ev (fun k => nat_Bit.f k (lim n) 0) (decide (n % 2 = 1)) := by
  have ha : Nt M (lim n) n := Nt.of h
  unfold nat_Bit.f nat_Bit.e
  have e1 : IntKind.i64.wrap (Int.tdiv 0 32) = 0 := by decide
  simp only [e1]
  refine Ev.fls (by simp) ?_
  by_cases h0 : n = 0
  · subst h0
    rw [lim_zero]
    refine Ev.tru (by simp) (Ev.turn (fun k => nat_Bit.p5_succ k _) ?_)
    exact Ev.pure
  · have hp := L_pos h0
    unfold FK.L at hp
    refine Ev.fls (dec_f (by omega)) (Ev.tru (by simp <;> omega) (Ev.fls (by decide) (Ev.eq ?_)))
    have hg := ha.get 0
    have e3 : Int.fdiv (nthD 0 (lim n) 0) (2 ^ min (Int.toNat (Int.tmod 0 32)) 32) = ((n % 4294967296 : Nat) : Int) := by
      rw [hg]
      have : (2 : Int) ^ min (Int.toNat (Int.tmod 0 32)) 32 = 1 := by decide
      rw [this]
      simp
    show decide (bitsI .and .u32 (Int.fdiv (nthD 0 (lim n) 0) (2 ^ min (Int.toNat (Int.tmod 0 32)) 32)) 1 = 1) = _
    rw [e3, bits_and32 (by omega) (by omega)]
    apply decide_eq_decide.2
    have : ((n % 4294967296 : Nat) : Int).toNat &&& (1 : Int).toNat = n % 4294967296 % 2 := by
      rw [Int.toNat_natCast]
      exact Nat.and_one_is_mod _
    rw [this]
    omega

theorem qs_le_iff {p q : Rat} : qs p q ≤ 0 ↔ p ≤ q := by
  have h1 := qs_neg (p := p) (q := q)
  have h2 := qs_zero (p := p) (q := q)
  constructor
  · intro h
    rcases Int.lt_or_eq_of_le h with h | h
    · exact Rat.le_of_lt (h1.1 h)
    · rw [h2.1 h]; exact Rat.le_refl
  · intro h
    rcases (show p < q ∨ p = q by grind) with h | h
    · exact Int.le_of_lt (h1.2 h)
    · exact Int.le_of_eq (h2.2 h)

/-! ### The power of ten -/
theorem power10_ev {r : RR} {q : Rat} (hr : Rt 1000 r q) {top : Int} (h0 : -324 ≤ top) (h3 : top ≤ 308) (h1 : p10 top ≤ q) (h2 : q < p10 (top + 1)) : Ev (fun k => approx_power.f k r) top := by
  have loop : ∀ n : Nat, ∀ e : Int, e + n = top → -324 ≤ e → Ev (fun k => approx_power.p0 k r e) top := by
    intro n
    induction n with
    | zero =>
      intro e he hle
      have e0 : e = top := by omega
      subst e0
      refine Ev.turn (fun k => approx_power.p0_succ k _ _) ?_
      unfold approx_power.e0
      rw [wrap_i64 (by omega) (by omega)]
      have hL := LQ_p10 (n := e + 1) (N := 400) (by omega)
      have hc := (Rt.of (M := 1000) (q := p10 (e + 1)) (by omega)).cmp hr (by omega) (by omega)
      refine Ev.bind (aten_ev _ (by omega)) (Ev.bind hc (Ev.fls (dec_f ?_) Ev.pure))
      rw [qs_le_iff]
      exact Rat.not_le.2 h2
    | succ n ih =>
      intro e he hle
      refine Ev.turn (fun k => approx_power.p0_succ k _ _) ?_
      unfold approx_power.e0
      rw [wrap_i64 (by omega) (by omega)]
      have hL := LQ_p10 (n := e + 1) (N := 400) (by omega)
      have hc := (Rt.of (M := 1000) (q := p10 (e + 1)) (by omega)).cmp hr (by omega) (by omega)
      refine Ev.bind (aten_ev _ (by omega)) (Ev.bind hc (Ev.tru (dec_t ?_) (ih (e + 1) (by omega) (by omega))))
      rw [qs_le_iff]
      exact (top_of h1 h2).2 (by omega)
  unfold approx_power.f approx_power.e
  exact loop (top + 324).toNat (-324) (by omega) (by omega)

/-! ### Of so many digits -/
def Txt (m : Nat) (t : Int) (s : ByteArray) : Prop := bs s = sci (strip (dd m)) (t + ((dd m).length : Int) - 1)

theorem feq_pos {c b : Nat} (hc : c ≤ 9218868437227405312) (hb : b ≤ 9218868437227405312) : fEq c b = decide (c = b) := by
  have h1 := isN_fb (s := false) hc
  have h2 := isN_fb (s := false) hb
  have e1 : fb false c = c := by unfold fb; simp
  have e2 : fb false b = b := by unfold fb; simp
  rw [e1] at h1
  rw [e2] at h2
  rw [fEq_eq h1 h2]
  have r1 := R_fb (s := false) (k := c) (by omega)
  have r2 := R_fb (s := false) (k := b) (by omega)
  rw [e1] at r1
  rw [e2] at r2
  rw [r1, r2]
  apply decide_eq_decide.2
  simp only [Bool.false_eq_true, if_false]
  omega

theorem Rds.le {w : Rat} {c : Nat} (h : Rds w c) : c ≤ 9218868437227405312 := by
  obtain ⟨k, a, h1, rfl⟩ := h
  have := h1.le
  have := nr_le (k := k) (a := a)
  omega

theorem abs_pos' {x : Rat} (h : 0 ≤ x) : x.abs = x := Rat.abs_of_nonneg h

theorem shortest_ev {b : Nat} (hb : b ≤ 9218868437227405311) {r : RR} {q : Rat} (hr : Rt 1000 r q) (hq : 0 < q) {top : Int} (h0 : -324 ≤ top) (h3 : top ≤ 308) (h1 : p10 top ≤ q) (h2 : q < p10 (top + 1)) {n : Nat} (hn1 : 1 ≤ n) (hn : n ≤ 17) :
    ∃ s ok, Ev (fun k => approx_shortest.f k b r top (n : Int)) (s, ok) ∧ match pick b q (top - n + 1) with
      | none => ok = false
      | some m => ok = true ∧ Txt m (top - n + 1) s := by
  obtain ⟨t, ht⟩ : ∃ t, top - (n : Int) + 1 = t := ⟨_, rfl⟩
  have hq0 := Rat.le_of_lt hq
  obtain ⟨d1, d2⟩ := lod_digits hq0 h1 h2 hn1
  obtain ⟨g1, g2⟩ := lod_spec hq0 (top - n + 1)
  have hcast := lod_cast hq0 (top - n + 1)
  rw [ht] at d1 d2 g1 g2 hcast ⊢
  have hp := p10_pos t
  have hpne : p10 t ≠ 0 := fun h => by rw [h] at hp; exact absurd hp Rat.lt_irrefl
  have hLp := LQ_p10 (n := t) (N := 400) (by omega)
  have hdiv := (hr.mono (M' := 2000) (by omega)).div (Rt.of (M := 2000) (q := p10 t) (by omega)) (by omega) (by omega) hpne
  have hLq := hr.LQ (by omega)
  have hLi := LQ_inv (p10 t)
  have hLx := LQ_mul q (p10 t)⁻¹
  have hxp : q * (p10 t)⁻¹ * p10 t = q := by rw [Rat.mul_assoc, Rat.inv_mul_cancel _ hpne, Rat.mul_one]
  generalize hX : q * (p10 t)⁻¹ = X at *
  have hrx : Rt 4000 (rat X) X := Rt.of (by omega)
  have hfl := hrx.floor (by omega) (by omega)
  rw [← hcast] at hfl
  have hpow : 10 ^ n ≤ 10 ^ 17 := Nat.pow_le_pow_right (by omega) hn
  have hpow1 : 1 ≤ 10 ^ (n - 1) := Nat.pow_pos (by omega)
  have hx1 : ((lod q t : Nat) : Rat) ≤ X ∧ X < ((lod q t : Nat) : Rat) + 1 := by
    unfold dv at g1 g2
    constructor
    · refine le_of_mul hp ?_
      rw [hxp]; exact g1
    · have : X * p10 t < (((lod q t : Nat) : Rat) + 1) * p10 t := by
        rw [hxp]
        rw [Rat.natCast_add] at g2
        exact g2
      exact (Rat.mul_lt_mul_right hp).1 this
  generalize hlo : lod q t = lo at *
  have hL1 : ∀ m : Nat, m ≤ 10 ^ 17 → FK.L m ≤ 2 := fun m hm => L_le (by omega)
  -- one of the two
  have one : ∀ m : Nat, 1 ≤ m → m ≤ 10 ^ 17 → ∃ s c, Rds (dv m t) c ∧ Txt m t s ∧ Ev (fun k => whole_Text.f k (int (m : Int))) (wtxt (m : Int)) ∧ Ev (fun k => approx_text.f k (wtxt (m : Int)) (IntKind.i64.wrap ((IntKind.i64.wrap (top + ((wtxt (m : Int)).size : Int))) - (n : Int)))) s ∧ Ev (fun k => approx_Read.f k s) (c, (0 : Int)) := by
    intro m hm1 hm
    have hw : wtxt (m : Int) = txt m := by unfold wtxt; rw [if_neg (by omega)]; rfl
    have hdl := dd_len10 (n := m) (t := 18) (by omega) (by omega)
    have hsz : (txt m).size = (dd m).length := by rw [← bs_length, bs_txt]
    have hw2 : IntKind.i64.wrap ((IntKind.i64.wrap (top + ((wtxt (m : Int)).size : Int))) - (n : Int)) = t + ((dd m).length : Int) - 1 := by
      rw [hw, hsz, wrap_i64 (n := top + ((dd m).length : Int)) (by omega) (by omega), wrap_i64 (by omega) (by omega)]; omega
    obtain ⟨s, e1, e2⟩ := text_ev (s := txt m) (by omega) (e := t + ((dd m).length : Int) - 1) (by omega)
    rw [bs_txt] at e2
    obtain ⟨c, e3, e4⟩ := read_sci (m := m) (by omega) (by omega) (t := t) (by omega) e2
    have hz : Zt 100 (int (m : Int)) (m : Int) := Zt.of (by unfold LZ; rw [Int.natAbs_natCast]; have := hL1 m hm; omega)
    refine ⟨s, c, e3, e2, hz.text (by omega), ?_, e4⟩
    rw [hw2, hw]
    exact e1
  obtain ⟨s0, c0, a1, a2, a3, a4, a5⟩ := one lo (by omega) (by omega)
  obtain ⟨s1, c1, b1, b2, b3, b4, b5⟩ := one (lo + 1) (by omega) (by omega)
  have hn0 := nrw_eq a1
  have hn1' := nrw_eq b1
  have f0 := feq_pos a1.le (show b ≤ 9218868437227405312 by omega)
  have f1 := feq_pos b1.le (show b ≤ 9218868437227405312 by omega)
  -- how far
  have far : ∀ m : Nat, m ≤ 10 ^ 17 → ∃ u, Ev (fun k => ratio_Of.f k (int (m : Int)) (int 1)) (rat ((m : Nat) : Rat), (0 : Int)) ∧ Ev (fun k => ratio_Sub.f k (rat ((m : Nat) : Rat)) (rat X)) (rat (((m : Nat) : Rat) - X)) ∧ Ev (fun k => ratio_Abs.f k (rat (((m : Nat) : Rat) - X))) u ∧ Rt 20000 u (((m : Nat) : Rat) - X).abs ∧ u = rat (((m : Nat) : Rat) - X).abs := by
    intro m hm
    have hz : Zt 100 (int (m : Int)) (m : Int) := Zt.of (by unfold LZ; rw [Int.natAbs_natCast]; have := hL1 m hm; omega)
    have hone : Zt 100 (int 1) 1 := (Zt.of (Nat.le_refl _)).mono (by rw [show LZ 1 = 1 from L_one]; omega)
    have hof := hz.of_ev hone (by omega) (by omega)
    rw [divInt_one, Rat.intCast_natCast] at hof
    have hLm := LQ_natR m
    have hLm2 := hL1 m hm
    have hs := (Rt.of (M := 4000) (q := ((m : Nat) : Rat)) (by omega)).sub hrx (by omega) (by omega)
    have hLs := LQ_sub ((m : Nat) : Rat) X
    have ha := (Rt.of (M := 9000) (q := ((m : Nat) : Rat) - X) (by omega)).abs (by omega) (by omega)
    exact ⟨_, hof, hs, ha, Rt.of (by rw [LQ_abs]; omega), rfl⟩
  obtain ⟨u0, k1, k2, k3, k4, k5⟩ := far lo (by omega)
  obtain ⟨u1, l1, l2, l3, l4, l5⟩ := far (lo + 1) (by omega)
  have h1e : Ev (fun k => whole_Of.f k (1 : Int)) (int 1) := whole_Of_ev (by omega)
  have efar0 : (((lo : Nat) : Rat) - X).abs = X - ((lo : Nat) : Rat) := by
    rw [show ((lo : Nat) : Rat) - X = -(X - ((lo : Nat) : Rat)) by grind, Rat.abs_neg, abs_pos' (by grind)]
  have efar1 : (((lo + 1 : Nat) : Rat) - X).abs = ((lo : Nat) : Rat) + 1 - X := by
    rw [Rat.natCast_add, show ((1 : Nat) : Rat) = 1 from rfl, abs_pos' (by grind)]
  -- the half way
  have hhalf : ((2 * q < dv (2 * lo + 1) t) ↔ 2 * X < 2 * ((lo : Nat) : Rat) + 1) ∧ ((2 * q = dv (2 * lo + 1) t) ↔ 2 * X = 2 * ((lo : Nat) : Rat) + 1) := by
    have e1 : dv (2 * lo + 1) t = (2 * ((lo : Nat) : Rat) + 1) * p10 t := by
      unfold dv
      rw [Rat.natCast_add, Rat.natCast_mul]
      rfl
    have e2 : 2 * q = 2 * X * p10 t := by rw [Rat.mul_assoc, hxp]
    rw [e1, e2]
    refine ⟨Rat.mul_lt_mul_right hp, ⟨fun h => ?_, fun h => by rw [h]⟩⟩
    have := congrArg (· * (p10 t)⁻¹) h
    simpa only [Rat.mul_assoc, Rat.mul_inv_cancel _ hpne, Rat.mul_one] using this
  -- the end
  have fin : ∀ (o : RR) (s : ByteArray) (ok : Bool), Ev (fun k => approx_shortest.p0 k (rat X) o b top (n : Int) s ok (int (lo : Int), int ((lo + 1 : Nat) : Int)) 2) (s, ok) := fun o s ok => by
    refine Ev.turn (fun k => approx_shortest.p0_succ k _ _ _ _ _ _ _ _ _) ?_
    unfold approx_shortest.e0
    exact Ev.fls (by simp) Ev.pure
  have p35b : ∀ (o : RR) (s : ByteArray) (ok : Bool), Ev (fun k => approx_shortest.p35 k (rat X) o b top (n : Int) s ok (int (lo : Int), int ((lo + 1 : Nat) : Int)) 1) (s, ok) := fun o s ok => by
    refine Ev.turn (fun k => approx_shortest.p35_succ k _ _ _ _ _ _ _ _ _) ?_
    unfold approx_shortest.e35
    rw [show IntKind.i64.wrap ((1 : Int) + 1) = 2 by decide]
    exact fin o s ok
  have p33b : ∀ (o o' : RR) (s : ByteArray), Ev (fun k => approx_shortest.p33 k (rat X) o o' b top (n : Int) s (int (lo : Int), int ((lo + 1 : Nat) : Int)) 1) (s, true) := fun o o' s => by
    refine Ev.turn (fun k => approx_shortest.p33_succ k _ _ _ _ _ _ _ _ _) ?_
    unfold approx_shortest.e33
    exact p35b o' s true
  have second : ∀ (o : RR) (fo : Rat) (s : ByteArray) (ok : Bool), Rt 20000 o fo → ∃ s' ok', Ev (fun k => approx_shortest.p0 k (rat X) o b top (n : Int) s ok (int (lo : Int), int ((lo + 1 : Nat) : Int)) 1) (s', ok') ∧
      (c1 ≠ b → s' = s ∧ ok' = ok) ∧ (c1 = b → ok' = true ∧ ((ok = false ∨ (((lo + 1 : Nat) : Rat) - X).abs < fo ∨ ((((lo + 1 : Nat) : Rat) - X).abs = fo ∧ (lo + 1) % 2 = 0)) → s' = s1) ∧ (¬ (ok = false ∨ (((lo + 1 : Nat) : Rat) - X).abs < fo ∨ ((((lo + 1 : Nat) : Rat) - X).abs = fo ∧ (lo + 1) % 2 = 0)) → s' = s)) := by
    intro o fo s ok ho
    have hcm := l4.cmp ho (by omega) (by omega)
    have hcd := qs_neg (p := (((lo + 1 : Nat) : Rat) - X).abs) (q := fo)
    have hce := qs_zero (p := (((lo + 1 : Nat) : Rat) - X).abs) (q := fo)
    have pre : ∀ {z : ByteArray × Bool}, Ev (fun k => approx_shortest.p17 k (rat X) o (int ((lo + 1 : Nat) : Int)) b top (n : Int) s ok (int (lo : Int), int ((lo + 1 : Nat) : Int)) 1) z → Ev (fun k => approx_shortest.p0 k (rat X) o b top (n : Int) s ok (int (lo : Int), int ((lo + 1 : Nat) : Int)) 1) z := fun h => by
      refine Ev.turn (fun k => approx_shortest.p0_succ k _ _ _ _ _ _ _ _ _) ?_
      unfold approx_shortest.e0
      exact Ev.tru (by simp) (Ev.fls (by simp) (Ev.tru (by simp) h))
    by_cases hc : c1 = b
    · have pre2 : ∀ {z : ByteArray × Bool}, Ev (fun k => (bif (!ok) then approx_shortest.p33 k (rat X) o u1 b top (n : Int) s1 (int (lo : Int), int ((lo + 1 : Nat) : Int)) 1 else
          (bif (decide (qs (((lo + 1 : Nat) : Rat) - X).abs fo < (0 : Int))) then approx_shortest.p33 k (rat X) o u1 b top (n : Int) s1 (int (lo : Int), int ((lo + 1 : Nat) : Int)) 1 else
            (bif (decide (qs (((lo + 1 : Nat) : Rat) - X).abs fo = (0 : Int))) then
              (Option.bind (nat_Bit.f k (int ((lo + 1 : Nat) : Int)).2 (0 : Int)) fun r14 => (bif (!r14) then approx_shortest.p33 k (rat X) o u1 b top (n : Int) s1 (int (lo : Int), int ((lo + 1 : Nat) : Int)) 1 else approx_shortest.p35 k (rat X) o b top (n : Int) s ok (int (lo : Int), int ((lo + 1 : Nat) : Int)) 1))
             else approx_shortest.p35 k (rat X) o b top (n : Int) s ok (int (lo : Int), int ((lo + 1 : Nat) : Int)) 1)))) z →
          Ev (fun k => approx_shortest.p17 k (rat X) o (int ((lo + 1 : Nat) : Int)) b top (n : Int) s ok (int (lo : Int), int ((lo + 1 : Nat) : Int)) 1) z := fun h => by
        refine Ev.turn (fun k => approx_shortest.p17_succ k _ _ _ _ _ _ _ _ _ _) ?_
        unfold approx_shortest.e17
        exact Ev.bind b3 (Ev.bind b4 (Ev.bind b5 (Ev.fls (by rw [f1, dec_t hc]; rfl) (Ev.bind h1e (Ev.bind l1 (Ev.bind l2 (Ev.bind l3 (Ev.bind hcm h))))))))
      by_cases hok : ok = false
      · subst hok
        exact ⟨s1, true, pre (pre2 (Ev.tru rfl (p33b o u1 s1))), fun h => absurd hc h, fun _ => ⟨rfl, fun _ => rfl, fun h => absurd (.inl rfl) h⟩⟩
      · have hok' : ok = true := by simpa using hok
        subst hok'
        by_cases hlt : (((lo + 1 : Nat) : Rat) - X).abs < fo
        · exact ⟨s1, true, pre (pre2 (Ev.fls rfl (Ev.tru (dec_t (hcd.2 hlt)) (p33b o u1 s1)))), fun h => absurd hc h, fun _ => ⟨rfl, fun _ => rfl, fun h => absurd (.inr (.inl hlt)) h⟩⟩
        · by_cases heq : (((lo + 1 : Nat) : Rat) - X).abs = fo
          · have hbit := nbit_ev (M := 10) (n := lo + 1) (by omega) (by have := hL1 (lo + 1) (by omega); omega)
            have hi2 : (int ((lo + 1 : Nat) : Int)).2 = lim (lo + 1) := by unfold int; simp only [Int.natAbs_natCast]
            rw [← hi2] at hbit
            by_cases hev : (lo + 1) % 2 = 0
            · exact ⟨s1, true, pre (pre2 (Ev.fls rfl (Ev.fls (dec_f (fun h => hlt (hcd.1 h))) (Ev.tru (dec_t (hce.2 heq)) (Ev.bind hbit (Ev.tru (by rw [dec_f (by omega)]; rfl) (p33b o u1 s1))))))), fun h => absurd hc h, fun _ => ⟨rfl, fun _ => rfl, fun h => absurd (.inr (.inr ⟨heq, hev⟩)) h⟩⟩
            · exact ⟨s, true, pre (pre2 (Ev.fls rfl (Ev.fls (dec_f (fun h => hlt (hcd.1 h))) (Ev.tru (dec_t (hce.2 heq)) (Ev.bind hbit (Ev.fls (by rw [dec_t (by omega)]; rfl) (p35b o s true))))))), fun h => absurd hc h, fun _ => ⟨rfl, fun h => (h.elim (fun h => by cases h) fun h => h.elim (fun h => absurd h hlt) fun h => absurd h.2 hev), fun _ => rfl⟩⟩
          · exact ⟨s, true, pre (pre2 (Ev.fls rfl (Ev.fls (dec_f (fun h => hlt (hcd.1 h))) (Ev.fls (dec_f (fun h => heq (hce.1 h))) (p35b o s true))))), fun h => absurd hc h, fun _ => ⟨rfl, fun h => (h.elim (fun h => by cases h) fun h => h.elim (fun h => absurd h hlt) fun h => absurd h.1 heq), fun _ => rfl⟩⟩
    · refine ⟨s, ok, pre (Ev.turn (fun k => approx_shortest.p17_succ k _ _ _ _ _ _ _ _ _ _) ?_), fun _ => ⟨rfl, rfl⟩, fun h => absurd h hc⟩
      unfold approx_shortest.e17
      exact Ev.bind b3 (Ev.bind b4 (Ev.bind b5 (Ev.tru (by rw [f1, dec_f hc]; rfl) (p35b o s ok))))
  -- the first
  have p35a : ∀ (o : RR) (s : ByteArray) (ok : Bool) {z : ByteArray × Bool}, Ev (fun k => approx_shortest.p0 k (rat X) o b top (n : Int) s ok (int (lo : Int), int ((lo + 1 : Nat) : Int)) 1) z → Ev (fun k => approx_shortest.p35 k (rat X) o b top (n : Int) s ok (int (lo : Int), int ((lo + 1 : Nat) : Int)) 0) z := fun o s ok z h => by
    refine Ev.turn (fun k => approx_shortest.p35_succ k _ _ _ _ _ _ _ _ _) ?_
    unfold approx_shortest.e35
    rw [show IntKind.i64.wrap ((0 : Int) + 1) = 1 by decide]
    exact h
  have hadd : Ev (fun k => whole_Add.f k (int (lo : Int)) (int 1)) (int ((lo + 1 : Nat) : Int)) := by
    have hz : Zt 100 (int (lo : Int)) (lo : Int) := Zt.of (by unfold LZ; rw [Int.natAbs_natCast]; have := hL1 lo (by omega); omega)
    have hone : Zt 100 (int 1) 1 := (Zt.of (Nat.le_refl _)).mono (by rw [show LZ 1 = 1 from L_one]; omega)
    exact hz.add hone (by omega)
  have start : ∀ {z : ByteArray × Bool}, Ev (fun k => approx_shortest.p17 k (rat X) noRat (int (lo : Int)) b top (n : Int) (ByteArray.mk #[]) false (int (lo : Int), int ((lo + 1 : Nat) : Int)) 0) z → Ev (fun k => approx_shortest.f k b r top (n : Int)) z := fun h => by
    unfold approx_shortest.f approx_shortest.e
    have hw : IntKind.i64.wrap ((IntKind.i64.wrap (top - (n : Int))) + 1) = t := by rw [wrap_i64 (n := top - (n : Int)) (by omega) (by omega), wrap_i64 (by omega) (by omega)]; omega
    rw [hw]
    refine Ev.bind (aten_ev t (by omega)) (Ev.bind hdiv (Ev.bind hfl (Ev.bind h1e (Ev.bind hadd ?_))))
    refine Ev.turn (fun k => approx_shortest.p0_succ k _ _ _ _ _ _ _ _ _) ?_
    unfold approx_shortest.e0
    exact Ev.tru (by simp) (Ev.tru (by simp) h)
  by_cases hc0 : c0 = b
  · -- the lower one is read so
    obtain ⟨s', ok', q1, q2, q3⟩ := second u0 _ s0 true k4
    have hcm := k4.cmp (Rt.zeroR (M := 20000)) (by omega) (by omega)
    refine ⟨s', ok', start (Ev.turn (fun k => approx_shortest.p17_succ k _ _ _ _ _ _ _ _ _ _) ?_), ?_⟩
    · unfold approx_shortest.e17
      refine Ev.bind a3 (Ev.bind a4 (Ev.bind a5 (Ev.fls (by rw [f0, dec_t hc0]; rfl) (Ev.bind h1e (Ev.bind k1 (Ev.bind k2 (Ev.bind k3 (Ev.bind hcm (Ev.tru rfl ?_)))))))))
      refine Ev.turn (fun k => approx_shortest.p33_succ k _ _ _ _ _ _ _ _ _) ?_
      unfold approx_shortest.e33
      exact p35a u0 s0 true q1
    · unfold pick
      rw [hlo, hn0, hn1', if_pos hc0]
      by_cases hc1 : c1 = b
      · rw [if_pos hc1]
        obtain ⟨z1, z2, z3⟩ := q3 hc1
        rw [efar0, efar1] at z2 z3
        by_cases hcase : 2 * q < dv (2 * lo + 1) t ∨ (2 * q = dv (2 * lo + 1) t ∧ lo % 2 = 0)
        · rw [if_pos hcase]
          refine ⟨z1, ?_⟩
          rw [z3]
          · exact a2
          · rw [hhalf.1, hhalf.2] at hcase
            rintro (h | h | ⟨h, h'⟩)
            · cases h
            · rcases hcase with hcase | ⟨hcase, _⟩ <;> grind
            · rcases hcase with hcase | ⟨_, hcase⟩
              · grind
              · omega
        · rw [if_neg hcase]
          refine ⟨z1, ?_⟩
          rw [z2]
          · exact b2
          · rw [hhalf.1, hhalf.2] at hcase
            right
            by_cases hlt : ((lo : Nat) : Rat) + 1 - X < X - ((lo : Nat) : Rat)
            · exact .inl hlt
            · refine .inr ⟨?_, ?_⟩
              · have : ¬ 2 * X < 2 * ((lo : Nat) : Rat) + 1 := fun h => hcase (.inl h)
                grind
              · by_cases he : lo % 2 = 0
                · exfalso
                  have h1 : ¬ 2 * X < 2 * ((lo : Nat) : Rat) + 1 := fun h => hcase (.inl h)
                  exact hcase (.inr ⟨by grind, he⟩)
                · omega
      · rw [if_neg hc1]
        obtain ⟨rfl, rfl⟩ := q2 hc1
        exact ⟨rfl, a2⟩
  · obtain ⟨s', ok', q1, q2, q3⟩ := second noRat 0 (ByteArray.mk #[]) false Rt.zeroR
    refine ⟨s', ok', start (Ev.turn (fun k => approx_shortest.p17_succ k _ _ _ _ _ _ _ _ _ _) ?_), ?_⟩
    · unfold approx_shortest.e17
      exact Ev.bind a3 (Ev.bind a4 (Ev.bind a5 (Ev.tru (by rw [f0, dec_f hc0]; rfl) (p35a noRat _ false q1))))
    · unfold pick
      rw [hlo, hn0, hn1', if_neg hc0]
      by_cases hc1 : c1 = b
      · rw [if_pos hc1]
        obtain ⟨z1, z2, z3⟩ := q3 hc1
        rw [z2 (.inl rfl)]
        exact ⟨z1, b2⟩
      · rw [if_neg hc1]
        exact (q2 hc1).2

end Go.FK


/- ApproxBack: a float's number is rounded to it, its shortest text is read as it, to the bit. -/
namespace Go.FK
open Flt
set_option exponentiation.threshold 20000

/-- The letters of a positive float's shortest text. -/
def SIs (k : Nat) (l : List Int) : Prop := ∃ (top : Int) (n m : Nat), 1 ≤ n ∧ n ≤ 17 ∧ -324 ≤ top ∧ top ≤ 308 ∧ p10 top ≤ num false k ∧ num false k < p10 (top + 1) ∧ pick k (num false k) (top - n + 1) = some m ∧
  (∀ n' : Nat, 1 ≤ n' → n' < n → pick k (num false k) (top - n' + 1) = none) ∧ l = sci (strip (dd m)) (top - n + 1 + ((dd m).length : Int) - 1)
/-- And of a finite one's. -/
def SL (s : Bool) (k : Nat) (l : List Int) : Prop := ∃ l0, l = (if s = true then [45] else []) ++ l0 ∧ (if k = 0 then l0 = [48] else SIs k l0)

theorem val_pos {k : Nat} (hk : k ≤ 9218868437227405311) : val k = num false k := by
  have := val_fb (s := false) (k := k) (by omega)
  unfold fb at this
  simpa using this

theorem p2_loop {k : Nat} (hk0 : 0 < k) (hk : k ≤ 9218868437227405311) {top : Int} (h0 : -324 ≤ top) (h3 : top ≤ 308) (h1 : p10 top ≤ num false k) (h2 : num false k < p10 (top + 1)) :
    ∀ d n : Nat, n + d = 17 → 1 ≤ n → (∀ n' : Nat, 1 ≤ n' → n' < n → pick k (num false k) (top - n' + 1) = none) → ∃ t, Ev (fun f => approx_Short.p2 f (rat (num false k)) k top (n : Int)) (t, (0 : Int)) ∧ SIs k (bs t) := by
  have hr : Rt 1000 (rat (num false k)) (num false k) := Rt.of (by have := LQ_num_k (k := k) (by omega); omega)
  intro d
  induction d with
  | zero =>
    intro n hn hn1 hno
    have e : n = 17 := by omega
    subst e
    obtain ⟨s, ok, g1, g2⟩ := shortest_ev hk hr (num_pos hk0) h0 h3 h1 h2 hn1 (by omega)
    have hne := pick17 hk0 hk h1
    cases hp : pick k (num false k) (top - (17 : Nat) + 1) with
    | none => exact absurd hp (by rw [show top - ((17 : Nat) : Int) + 1 = top - 16 by omega]; exact hne)
    | some m =>
      rw [hp] at g2
      obtain ⟨rfl, g3⟩ := g2
      refine ⟨s, Ev.turn (fun f => approx_Short.p2_succ f _ _ _ _) ?_, top, 17, m, hn1, by omega, h0, h3, h1, h2, hp, hno, g3⟩
      unfold approx_Short.e2
      exact Ev.bind g1 (Ev.tru rfl Ev.pure)
  | succ d ih =>
    intro n hn hn1 hno
    obtain ⟨s, ok, g1, g2⟩ := shortest_ev hk hr (num_pos hk0) h0 h3 h1 h2 hn1 (by omega)
    cases hp : pick k (num false k) (top - n + 1) with
    | none =>
      rw [hp] at g2
      have g2 : ok = false := g2
      subst g2
      obtain ⟨t, g3, g4⟩ := ih (n + 1) (by omega) (by omega) (fun n' a1 a2 => by
        rcases Nat.lt_succ_iff_lt_or_eq.1 a2 with h | h
        · exact hno n' a1 h
        · rw [h]; exact hp)
      refine ⟨t, Ev.turn (fun f => approx_Short.p2_succ f _ _ _ _) ?_, g4⟩
      unfold approx_Short.e2
      rw [wrap_i64 (by omega) (by omega)]
      exact Ev.bind g1 (Ev.fls rfl (by have e : ((n + 1 : Nat) : Int) = (n : Int) + 1 := by omega
                                       rw [e] at g3; exact g3))
    | some m =>
      rw [hp] at g2
      obtain ⟨rfl, g3⟩ := g2
      refine ⟨s, Ev.turn (fun f => approx_Short.p2_succ f _ _ _ _) ?_, top, n, m, hn1, by omega, h0, h3, h1, h2, hp, hno, g3⟩
      unfold approx_Short.e2
      exact Ev.bind g1 (Ev.tru rfl Ev.pure)

theorem R_pos {k : Nat} (hk : k < 9223372036854775808) : R k = (k : Int) := by
  have := R_fb (s := false) hk
  unfold fb at this
  simpa using this

theorem short_pos {k : Nat} (hk0 : 0 < k) (hk : k ≤ 9218868437227405311) : ∃ t, Ev (fun f => approx_Short.f f k) (t, (0 : Int)) ∧ SIs k (bs t) := by
  obtain ⟨top, h0, h3, h1, h2⟩ := top_exists hk0 hk
  obtain ⟨t, g1, g2⟩ := p2_loop hk0 hk h0 h3 h1 h2 16 1 (by omega) (by omega) (fun n' a1 a2 => by omega)
  have hf : Fin k := by unfold Fin; omega
  have he := exact_ev (x := k) (by omega) hf
  rw [val_pos hk] at he
  have hr : Rt 1000 (rat (num false k)) (num false k) := Rt.of (by have := LQ_num_k (k := k) (by omega); omega)
  have hz : fEq k 0 = false := by rw [fEq_eq hf.nan isN_zero, R_pos (by omega), R_zero]; exact dec_f (by omega)
  have hl : fLt k 0 = false := by rw [fLt_eq hf.nan isN_zero, R_pos (by omega), R_zero]; exact dec_f (by omega)
  refine ⟨t, Ev.turn (fun f => approx_Short.f_succ f _) ?_, g2⟩
  unfold approx_Short.e
  refine Ev.bind he (Ev.fls rfl (Ev.fls hz ?_))
  refine Ev.turn (fun f => approx_Short.p13_succ f _ _) ?_
  unfold approx_Short.e13
  exact Ev.fls hz (Ev.fls hl (Ev.bind (power10_ev hr h0 h3 h1 h2) g1))

theorem fin_fbk {s : Bool} {k : Nat} (hk : k ≤ 9218868437227405311) : Fin (fb s k) := (fin_fb (by omega)).2 hk

theorem short_ev (s : Bool) {k : Nat} (hk : k ≤ 9218868437227405311) : ∃ t, Ev (fun f => approx_Short.f f (fb s k)) (t, (0 : Int)) ∧ SL s k (bs t) := by
  have hlt := fb_lt (s := s) (k := k) (by omega)
  have hf := fin_fbk (s := s) hk
  have he := exact_ev hlt hf
  rw [val_fb (by omega)] at he
  have hR := R_fb (s := s) (k := k) (by omega)
  have hz : fEq (fb s k) 0 = decide (k = 0) := by
    rw [fEq_eq hf.nan isN_zero, hR, R_zero]
    apply decide_eq_decide.2
    split <;> omega
  by_cases hk0 : k = 0
  · subst hk0
    have hsb : Ev (fun f => math_Signbit.f f (fb s 0)) s := by
      unfold math_Signbit.f math_Signbit.e math_Float64bits.f
      refine Ev.bind Ev.pure (Ev.eq ?_)
      cases s <;> decide
    have p13 : ∀ r : RR, Ev (fun f => approx_Short.p13 f r (fb s 0)) (ByteArray.mk #[48], (0 : Int)) := fun r => by
      refine Ev.turn (fun f => approx_Short.p13_succ f _ _) ?_
      unfold approx_Short.e13
      exact Ev.tru (by rw [hz]; rfl) Ev.pure
    cases hs : s with
    | true =>
      rw [hs] at he hz hsb
      refine ⟨ByteArray.mk #[45, 48], Ev.turn (fun f => approx_Short.f_succ f _) ?_, [48], rfl, by rw [if_pos rfl]⟩
      unfold approx_Short.e
      exact Ev.bind he (Ev.fls rfl (Ev.tru (by rw [hz]; rfl) (Ev.bind hsb (Ev.tru rfl Ev.pure))))
    | false =>
      rw [hs] at he hz hsb p13
      refine ⟨ByteArray.mk #[48], Ev.turn (fun f => approx_Short.f_succ f _) ?_, [48], rfl, by rw [if_pos rfl]⟩
      unfold approx_Short.e
      exact Ev.bind he (Ev.fls rfl (Ev.tru (by rw [hz]; rfl) (Ev.bind hsb (Ev.fls rfl (p13 _)))))
  · obtain ⟨u, g1, g2⟩ := short_pos (by omega) hk
    rw [dec_f hk0] at hz
    cases hs : s with
    | false =>
      have e : fb false k = k := by unfold fb; simp
      rw [e]
      exact ⟨u, g1, bs u, by simp, by rw [if_neg hk0]; exact g2⟩
    | true =>
      rw [hs] at he hz hf hR hlt
      have hl : fLt (fb true k) 0 = true := by rw [fLt_eq hf.nan isN_zero, hR, R_zero, if_pos rfl]; exact dec_t (by omega)
      have hng : fNeg (fb true k) = k := by
        have e : fb true k = k + 9223372036854775808 := by unfold fb; simp
        rw [e, fNeg_eq (by omega), if_neg (by omega)]; omega
      have hus : u.size ≤ 1000 := by
        obtain ⟨top, n, m, a1, a2, a3, a4, a5, a6, a7, _, a9⟩ := g2
        obtain ⟨_, a10⟩ := pick_spec a7
        obtain ⟨d1, d2⟩ := lod_digits (Rat.le_of_lt (num_pos (by omega : 0 < k))) a5 a6 a1
        have hpow : 10 ^ n ≤ 10 ^ 17 := Nat.pow_le_pow_right (by omega) a2
        have hdl := dd_len10 (n := m) (t := 18) (by omega) (by omega)
        have hsl := strip_le (dd m)
        have := sci_len (strip (dd m)) (e := top - n + 1 + ((dd m).length : Int) - 1) (by omega)
        rw [← bs_length, a9]; omega
      refine ⟨ByteArray.mk #[45] ++ u, Ev.turn (fun f => approx_Short.f_succ f _) ?_, bs u, by rw [bs_append]; rfl, by rw [if_neg hk0]; exact g2⟩
      unfold approx_Short.e
      refine Ev.bind he (Ev.fls rfl (Ev.fls hz ?_))
      refine Ev.turn (fun f => approx_Short.p13_succ f _ _) ?_
      unfold approx_Short.e13
      rw [hng]
      have s45 : (ByteArray.mk #[45]).size = 1 := rfl
      exact Ev.fls hz (Ev.tru hl (Ev.bind g1 (Ev.fls (dec_f (by rw [max64, s45]; show ¬ (((1 + u.size : Nat) : Int) > 9223372036854775807); omega)) Ev.pure)))

/-! ### The shortest text is read as the float -/
theorem SIs.read {k : Nat} (hk0 : 0 < k) {l : List Int} (h : SIs k l) : ∃ d e, dspec l = some (d, e) ∧ Rds (dv d e) k ∧ nthD 0 l 0 ≠ 45 ∧ l.length ≤ 40 := by
  obtain ⟨top, n, m, a1, a2, a3, a4, a5, a6, a7, _, a9⟩ := h
  obtain ⟨b1, b2⟩ := pick_spec a7
  obtain ⟨d1, d2⟩ := lod_digits (Rat.le_of_lt (num_pos hk0)) a5 a6 a1
  have hpow : 10 ^ n ≤ 10 ^ 17 := Nat.pow_le_pow_right (by omega) a2
  have hpow1 : 1 ≤ 10 ^ (n - 1) := Nat.pow_pos (by omega)
  have hdl := dd_len10 (n := m) (t := 18) (by omega) (by omega)
  have hm : 0 < m := by omega
  obtain ⟨d, e, c1, c2, c3, c4⟩ := dspec_number hm (t := top - n + 1) (by omega)
  rw [← a9] at c1 c3 c4
  have hsl := strip_le (dd m)
  have hlen := sci_len (strip (dd m)) (e := top - n + 1 + ((dd m).length : Int) - 1) (by omega)
  rw [← a9] at hlen
  have hds := dspec_some c1
  obtain ⟨kk, aa, hp⟩ := pl_of d (e := e) (by omega) (by omega)
  have hrd := Rds.of_pl hp
  have hkk : nr kk aa = k := by
    rw [c2] at hrd
    rw [← nrw_eq hrd, b1]
  rw [hkk] at hrd
  refine ⟨d, e, c1, hrd, ?_, by omega⟩
  unfold dneg at c3
  simpa using c3

/-! ### The law -/
end Go.FK


/- ApproxShorts: the shortest text of a float: the reference's, and that they are alike. -/
namespace Go.FK
open Flt
set_option exponentiation.threshold 20000

/-- A number as a quotient of limbs. -/
def Fr (M : Nat) (r : RR) (q : Rat) (N D : Nat) : Prop := r.1.1 = false ∧ Nt M r.1.2 N ∧ Nt M r.2 D ∧ D ≠ 0 ∧ q * (D : Rat) = (N : Rat)

theorem Fr.rt {M : Nat} {r : RR} {q : Rat} {N D : Nat} (h : Fr M r q N D) : Rt M r q := by
  obtain ⟨h1, h2, h3, h4, h5⟩ := h
  have e : q = mkRat (N : Int) D := by
    have h6 := mkRat_mul_den (z := (N : Int)) h4
    have hp : (0 : Rat) < (D : Rat) := by exact_mod_cast Nat.pos_of_ne_zero h4
    have h7 : q * (D : Rat) = mkRat (N : Int) D * (D : Rat) := by rw [h6, h5]; rfl
    have h8 := congrArg (· * (D : Rat)⁻¹) h7
    have hne : (D : Rat) ≠ 0 := fun h => by rw [h] at hp; exact absurd hp Rat.lt_irrefl
    simpa only [Rat.mul_assoc, Rat.mul_inv_cancel _ hne, Rat.mul_one] using h8
  have hr : r = ((false, r.1.2), r.2) := by rw [← h1]
  rw [hr, e]
  exact Rt.mk2 (Zt.pos h2) h3
theorem Fr.mono {M M' : Nat} {r : RR} {q : Rat} {N D : Nat} (h : Fr M r q N D) (hM : M ≤ M') : Fr M' r q N D := ⟨h.1, h.2.1.mono hM, h.2.2.1.mono hM, h.2.2.2.1, h.2.2.2.2⟩

/-- Two quotients held against one another. -/
theorem Fr.cmp {q p : Rat} {N D x y : Nat} (hD : D ≠ 0) (hy : y ≠ 0) (hq : q * (D : Rat) = (N : Rat)) (hp : p * (y : Rat) = (x : Rat)) : (x * D ≤ N * y ↔ p ≤ q) ∧ (x * D < N * y ↔ p < q) ∧ (x * D = N * y ↔ p = q) := by
  have h1 : (0 : Rat) < (D : Rat) := by exact_mod_cast Nat.pos_of_ne_zero hD
  have h2 : (0 : Rat) < (y : Rat) := by exact_mod_cast Nat.pos_of_ne_zero hy
  have hz := Rat.mul_pos h1 h2
  have e1 : ((x * D : Nat) : Rat) = p * ((D : Rat) * (y : Rat)) := by rw [Rat.natCast_mul, ← hp]; grind
  have e2 : ((N * y : Nat) : Rat) = q * ((D : Rat) * (y : Rat)) := by rw [Rat.natCast_mul, ← hq]; grind
  have lt : ∀ a b : Rat, a * ((D : Rat) * (y : Rat)) < b * ((D : Rat) * (y : Rat)) ↔ a < b := fun a b => Rat.mul_lt_mul_right hz
  refine ⟨?_, ?_, ?_⟩
  · rw [← Rat.not_lt, ← lt, ← e1, ← e2, Rat.natCast_lt_natCast]; omega
  · rw [← lt, ← e1, ← e2, Rat.natCast_lt_natCast]
  · constructor
    · intro h
      have : ((x * D : Nat) : Rat) = ((N * y : Nat) : Rat) := by rw [h]
      rw [e1, e2] at this
      have h8 := congrArg (· * ((D : Rat) * (y : Rat))⁻¹) this
      have hne : ((D : Rat) * (y : Rat)) ≠ 0 := fun h => by rw [h] at hz; exact absurd hz Rat.lt_irrefl
      simpa only [Rat.mul_assoc, Rat.mul_inv_cancel _ hne, Rat.mul_one] using h8
    · intro h
      have : ((x * D : Nat) : Rat) = ((N * y : Nat) : Rat) := by rw [e1, e2, h]
      exact_mod_cast this

/-- Powers of ten. -/
theorem tens_fr (n : Int) (hn : n.natAbs ≤ 6000) : ∃ r x y, Ev (fun k => ref04_tens.f k n) r ∧ Fr 7000 r (p10 n) x y := by
  obtain ⟨r, h1, h2, x, y, hx, hy, hy0, hv, l1, l2, l3, l4⟩ := rtens_ev n (by omega)
  refine ⟨r, x, y, h1, h2, ⟨hx.lim, hx.val, by omega⟩, ⟨hy.lim, hy.val, by omega⟩, hy0, ?_⟩
  have h := hv 1
  rw [Nat.one_mul] at h
  have h6 := mkRat_mul_den (z := (x : Int)) hy0
  rw [h] at h6
  unfold dv at h6
  rw [show ((1 : Nat) : Rat) = 1 from rfl, Rat.one_mul] at h6
  exact h6

theorem times_fr {a : List Int} {d : Nat} (ha : Nt 100 a d) (n : Int) (hn : n.natAbs ≤ 6000) : ∃ r N D, Ev (fun k => ref04_timesTen.f k a n) r ∧ Fr 8000 r (dv d n) N D := by
  obtain ⟨r, x, y, h1, h2, hx, hy, hy0, hv⟩ := tens_fr n hn
  have hm := (ha.mono (M' := 7000) (by omega)).rmul hx (by omega)
  have hL : FK.L (d * x) ≤ 7200 := by
    have h3 := L_mul d x
    have h4 := ha.L
    have h5 := hx.L
    omega
  refine ⟨((false, lim (d * x)), r.2), d * x, y, ?_, rfl, Nt.of (by omega), hy.mono (by omega), hy0, ?_⟩
  · unfold ref04_timesTen.f ref04_timesTen.e
    exact Ev.bind h1 (Ev.bind hm Ev.pure)
  · unfold dv
    rw [Rat.mul_assoc, hv, Rat.natCast_mul]

/-- The float nearest to such a number. -/
theorem nearest_fr {r : RR} {m : Nat} {t : Int} {N D : Nat} (h : Fr 8000 r (dv m t) N D) (hm : FK.L m ≤ 100) (ht : t.natAbs ≤ 6000) : Ev (fun f => ref04_NearestBits.f f r) ((nrw (dv m t) : Nat) : Int) := by
  obtain ⟨k, a, hp⟩ := pl_of m (e := t) (by omega) (by omega)
  have hn := h.rt.rnearBits (by omega) hp
  have e : nrB (dv m t) k a = nr k a := by
    unfold nrB fb
    rw [dec_f (dv_nonneg m t), if_neg (by simp)]
  rw [e, ← nrw_eq (Rds.of_pl hp)] at hn
  exact hn

/-! ### The reference's search -/
theorem rlessTens_ev {a : RR} {q : Rat} {N D : Nat} (ha : Fr 8000 a q N D) (n : Int) (hn : n.natAbs ≤ 6000) : Ev (fun k => ref04_lessTens.f k n a) (decide (p10 n ≤ q)) := by
  obtain ⟨r, x, y, h1, h2, hx, hy, hy0, hv⟩ := tens_fr n hn
  obtain ⟨_, hN, hD, hD0, hq⟩ := ha
  have m1 := (hx.mono (M' := 8000) (by omega)).rmul hD (by omega)
  have m2 := hN.rmul (hy.mono (M' := 8000) (by omega)) (by omega)
  have l1 := L_mul x D
  have l2 := L_mul N y
  have := hx.L
  have := hy.L
  have := hN.L
  have := hD.L
  have hc := (Nt.of (M := 20000) (n := x * D) (by omega)).rcmp (Nt.of (M := 20000) (n := N * y) (by omega)) (by omega)
  unfold ref04_lessTens.f ref04_lessTens.e
  refine Ev.bind h1 (Ev.bind m1 (Ev.bind m2 (Ev.bind hc (Ev.eq ?_))))
  apply decide_eq_decide.2
  rw [← (Fr.cmp hD0 hy0 hq hv).1]
  unfold sgn
  split
  · constructor <;> intro _ <;> omega
  · split
    · constructor <;> intro _ <;> omega
    · constructor <;> intro _ <;> omega

theorem le_mkR {n a : Int} {b : Nat} (hb : b ≠ 0) : (n : Rat) ≤ mkRat a b ↔ n * b ≤ a := by
  have hp : (0 : Rat) < (b : Rat) := by exact_mod_cast Nat.pos_of_ne_zero hb
  have h1 := mkRat_mul_den (z := a) hb
  constructor
  · intro h
    have h2 := Rat.mul_le_mul_of_nonneg_right h (Rat.le_of_lt hp)
    rw [h1] at h2
    have e : (n : Rat) * (b : Rat) = ((n * b : Int) : Rat) := by rw [Rat.intCast_mul]; rfl
    rw [e] at h2
    exact_mod_cast h2
  · intro h
    refine le_of_mul hp ?_
    rw [h1]
    have e : (n : Rat) * (b : Rat) = ((n * b : Int) : Rat) := by rw [Rat.intCast_mul]; rfl
    rw [e]
    exact_mod_cast h
theorem qfl_mkRat (a : Int) {b : Nat} (hb : b ≠ 0) : qfloor (mkRat a b) = a / (b : Int) := by
  have e : ∀ {n : Int} {q : Rat}, n ≤ qfloor q ↔ (n : Rat) ≤ q := fun {n q} => by
    rw [show qfloor q = q.floor from (Rat.floor_def q).symm]; exact Rat.le_floor_iff
  apply Int.le_antisymm
  · rw [Int.le_ediv_iff_mul_le (by omega)]
    exact (le_mkR hb).1 (e.1 (Int.le_refl _))
  · rw [e, le_mkR hb]
    exact Int.ediv_mul_le _ (by omega)

theorem lod_div {q : Rat} {N D x y : Nat} {t : Int} (hD : D ≠ 0) (hx : x ≠ 0) (hq : q * (D : Rat) = (N : Rat)) (hp : p10 t * (y : Rat) = (x : Rat)) : lod q t = (N * y) / (D * x) := by
  have hpos := p10_pos t
  have hne : p10 t ≠ 0 := fun h => by rw [h] at hpos; exact absurd hpos Rat.lt_irrefl
  have hd : D * x ≠ 0 := Nat.mul_ne_zero hD hx
  have e1 : q * (p10 t)⁻¹ * ((D * x : Nat) : Rat) = ((N * y : Nat) : Rat) := by
    have h2 : (p10 t)⁻¹ * (x : Rat) = (y : Rat) := by
      rw [← hp, ← Rat.mul_assoc, Rat.inv_mul_cancel _ hne, Rat.one_mul]
    have h3 : q * (p10 t)⁻¹ * ((D : Rat) * (x : Rat)) = (q * (D : Rat)) * ((p10 t)⁻¹ * (x : Rat)) := by grind
    rw [Rat.natCast_mul, Rat.natCast_mul, h3, h2, hq]
  have e : q * (p10 t)⁻¹ = mkRat ((N * y : Nat) : Int) (D * x) := by
    have h6 := mkRat_mul_den (z := ((N * y : Nat) : Int)) hd
    have hpp : (0 : Rat) < ((D * x : Nat) : Rat) := by exact_mod_cast Nat.pos_of_ne_zero hd
    have h7 : q * (p10 t)⁻¹ * ((D * x : Nat) : Rat) = mkRat ((N * y : Nat) : Int) (D * x) * ((D * x : Nat) : Rat) := by rw [h6, e1]; rfl
    have hne2 : ((D * x : Nat) : Rat) ≠ 0 := fun h => by rw [h] at hpp; exact absurd hpp Rat.lt_irrefl
    have h8 := congrArg (· * ((D * x : Nat) : Rat)⁻¹) h7
    simpa only [Rat.mul_assoc, Rat.mul_inv_cancel _ hne2, Rat.mul_one] using h8
  unfold lod
  rw [e, qfl_mkRat _ hd, ← Int.natCast_ediv, Int.toNat_natCast]

theorem p10_ne0 {t : Int} {x y : Nat} (hy : y ≠ 0) (hp : p10 t * (y : Rat) = (x : Rat)) : x ≠ 0 := by
  intro h
  subst h
  have h1 := p10_pos t
  have h2 : (0 : Rat) < (y : Rat) := by exact_mod_cast Nat.pos_of_ne_zero hy
  have h3 := Rat.mul_pos h1 h2
  rw [hp] at h3
  exact absurd h3 Rat.lt_irrefl

theorem rshortest_ev {a : RR} {q : Rat} {N D : Nat} (ha : Fr 500 a q N D) (hq0 : 0 < q) {top : Int} (h0 : -324 ≤ top) (h3 : top ≤ 308) (h1 : p10 top ≤ q) (h2 : q < p10 (top + 1)) {n : Nat} (hn1 : 1 ≤ n) (hn : n ≤ 17) (b : Nat) :
    ∃ l ok, Ev (fun k => ref04_shortest.f k a (b : Int) (top - n + 1)) (l, ok) ∧ match pick b q (top - n + 1) with
      | none => ok = false
      | some m => ok = true ∧ l = lim m := by
  obtain ⟨d1, d2⟩ := lod_digits (Rat.le_of_lt hq0) h1 h2 hn1
  have hpow : 10 ^ n ≤ 10 ^ 17 := Nat.pow_le_pow_right (by omega) hn
  obtain ⟨t, ht⟩ : ∃ t, top - (n : Int) + 1 = t := ⟨_, rfl⟩
  rw [ht] at d1 d2 ⊢
  obtain ⟨r, x, y, r1, r2, hx, hy, hy0, hv⟩ := tens_fr t (by omega)
  obtain ⟨_, hN, hD, hD0, hq⟩ := ha
  have hx0 := p10_ne0 hy0 hv
  have hlod := lod_div hD0 hx0 hq hv
  have m1 := (hN.mono (M' := 7000) (by omega)).rmul hy (by omega)
  have m2 := (hD.mono (M' := 7000) (by omega)).rmul hx (by omega)
  have l1 := L_mul D x
  have l2 := L_mul N y
  have lx := hx.L
  have ly := hy.L
  have lN := hN.L
  have lD := hD.L
  have hdiv := (Nt.of (M := 20000) (n := N * y) (by omega)).rdiv (Nt.of (M := 20000) (n := D * x) (by omega)) (by omega) (Nat.mul_ne_zero hD0 hx0)
  rw [← hlod] at hdiv
  generalize hlo : lod q t = lo at *
  have hL : ∀ m : Nat, m ≤ 10 ^ 18 → FK.L m ≤ 2 := fun m hm => L_le (by omega)
  have n1 : Nt 100 ([1] : List Int) 1 := (Nt.one (by simp [B])).mono (by omega)
  have nlo : Nt 100 (lim lo) lo := Nt.of (by have := hL lo (by omega); omega)
  have nhi : Nt 100 (lim (lo + 1)) (lo + 1) := Nt.of (by have := hL (lo + 1) (by omega); omega)
  have hadd := nlo.radd n1 (by omega)
  obtain ⟨ra, Na, Da, a1, a2⟩ := times_fr nlo t (by omega)
  obtain ⟨rb, Nb, Db, b1, b2⟩ := times_fr nhi t (by omega)
  have a3 := nearest_fr a2 (by have := hL lo (by omega); omega) (by omega)
  have b3 := nearest_fr b2 (by have := hL (lo + 1) (by omega); omega) (by omega)
  have hdl : ∀ z : Nat, decide (((z : Nat) : Int) = (b : Int)) = decide (z = b) := fun z => decide_eq_decide.2 (by omega)
  unfold pick
  rw [hlo]
  have p15 : ∀ (f g : Bool), Ev (fun k => ref04_shortest.p15 k (lim lo) (lim (lo + 1)) f g) (if f = true then (lim lo, true) else (lim (lo + 1), g)) := fun f g => by
    refine Ev.turn (fun k => ref04_shortest.p15_succ k _ _ _ _) ?_
    unfold ref04_shortest.e15
    cases f
    · exact Ev.fls rfl Ev.pure
    · exact Ev.tru rfl Ev.pure
  have pre : ∀ {z : List Int × Bool}, Ev (fun k => (bif (!(decide (((nrw (dv lo t) : Nat) : Int) = (b : Int)))) then
      ref04_shortest.p15 k (lim lo) (lim (lo + 1)) (decide (((nrw (dv lo t) : Nat) : Int) = (b : Int))) (decide (((nrw (dv (lo + 1) t) : Nat) : Int) = (b : Int)))
    else
      (bif (!(decide (((nrw (dv (lo + 1) t) : Nat) : Int) = (b : Int)))) then
        ref04_shortest.p15 k (lim lo) (lim (lo + 1)) (decide (((nrw (dv lo t) : Nat) : Int) = (b : Int))) (decide (((nrw (dv (lo + 1) t) : Nat) : Int) = (b : Int)))
      else
        (Option.bind (ref01_Add.f k (lim lo) (lim (lo + 1))) fun r10 =>
          (Option.bind (ref04_timesTen.f k r10 t) fun r11 =>
            (Option.bind (ref01_Add.f k a.1.2 a.1.2) fun r12 =>
              (Option.bind (ref01_Mul.f k r12 r11.2) fun r13 =>
                (Option.bind (ref01_Mul.f k r11.1.2 a.2) fun r14 =>
                  (Option.bind (ref01_Cmp.f k r13 r14) fun r15 =>
                    (bif (decide (r15 < (0 : Int))) then
                      ref04_shortest.p29 k (lim lo)
                    else
                      (bif (decide (r15 = (0 : Int))) then
                        (Option.bind (ref01_Bit.f k (lim lo) (0 : Int)) fun r16 =>
                          (bif (!r16) then
                            ref04_shortest.p29 k (lim lo)
                          else
                            ref04_shortest.p31 k (lim (lo + 1))))
                      else
                        ref04_shortest.p31 k (lim (lo + 1))))))))))))) z → Ev (fun k => ref04_shortest.f k a (b : Int) t) z := fun h => by
    unfold ref04_shortest.f ref04_shortest.e
    exact Ev.bind r1 (Ev.bind m1 (Ev.bind m2 (Ev.bind hdiv (Ev.bind hadd (Ev.bind a1 (Ev.bind a3 (Ev.bind b1 (Ev.bind b3 h))))))))
  rw [hdl, hdl] at pre
  by_cases ca : nrw (dv lo t) = b
  · by_cases cb : nrw (dv (lo + 1) t) = b
    · rw [if_pos ca, if_pos cb]
      rw [dec_t ca, dec_t cb] at pre
      have n2 : Nt 100 (lim (lo + (lo + 1))) (lo + (lo + 1)) := Nt.of (by have := hL (lo + (lo + 1)) (by omega); omega)
      have hadd2 := nlo.radd nhi (by omega)
      obtain ⟨rc, Nc, Dc, c1, c2, c3, c4, c5, c6⟩ := times_fr n2 t (by omega)
      rw [show lo + (lo + 1) = 2 * lo + 1 by omega] at c6
      have tw := hN.radd hN (by omega)
      have lNN := L_add N N
      have lc3 := c3.L
      have lc4 := c4.L
      have m3 := (Nt.of (M := 20000) (n := N + N) (by omega)).rmul (c4.mono (M' := 20000) (by omega)) (by omega)
      have m4 := (c3.mono (M' := 20000) (by omega)).rmul (hD.mono (M' := 20000) (by omega)) (by omega)
      have lm3 := L_mul (N + N) Dc
      have lm4 := L_mul Nc D
      have hc := (Nt.of (M := 60000) (n := (N + N) * Dc) (by omega)).rcmp (Nt.of (M := 60000) (n := Nc * D) (by omega)) (by omega)
      have h2q : (2 * q) * (D : Rat) = ((N + N : Nat) : Rat) := by rw [Rat.natCast_add, ← hq]; grind
      obtain ⟨k1, k2, k3⟩ := Fr.cmp hD0 c5 h2q c6
      have p29 : Ev (fun k => ref04_shortest.p29 k (lim lo)) (lim lo, true) := Ev.turn (fun k => ref04_shortest.p29_succ k _) Ev.pure
      have p31 : Ev (fun k => ref04_shortest.p31 k (lim (lo + 1))) (lim (lo + 1), true) := Ev.turn (fun k => ref04_shortest.p31_succ k _) Ev.pure
      have hbit := rGcd_bit (M := 100) (by omega) (a := lo) (by have := hL lo (by omega); omega)
      have hsg : (sgn (((N + N) * Dc : Nat) : Int) ((Nc * D : Nat) : Int) < 0 ↔ 2 * q < dv (2 * lo + 1) t) ∧ (sgn (((N + N) * Dc : Nat) : Int) ((Nc * D : Nat) : Int) = 0 ↔ 2 * q = dv (2 * lo + 1) t) := by
        constructor
        · rw [← Rat.not_le, ← k1]
          unfold sgn
          split
          · constructor <;> intro _ <;> omega
          · split
            · constructor <;> intro _ <;> omega
            · constructor <;> intro _ <;> omega
        · rw [eq_comm (a := 2 * q), ← k3]
          unfold sgn
          split
          · constructor <;> intro _ <;> omega
          · split
            · constructor <;> intro _ <;> omega
            · constructor <;> intro _ <;> omega
      have pre2 : ∀ {z : List Int × Bool}, Ev (fun k => (bif (decide (sgn (((N + N) * Dc : Nat) : Int) ((Nc * D : Nat) : Int) < (0 : Int))) then
                      ref04_shortest.p29 k (lim lo)
                    else
                      (bif (decide (sgn (((N + N) * Dc : Nat) : Int) ((Nc * D : Nat) : Int) = (0 : Int))) then
                        (Option.bind (ref01_Bit.f k (lim lo) (0 : Int)) fun r16 =>
                          (bif (!r16) then
                            ref04_shortest.p29 k (lim lo)
                          else
                            ref04_shortest.p31 k (lim (lo + 1))))
                      else
                        ref04_shortest.p31 k (lim (lo + 1))))) z → Ev (fun k => ref04_shortest.f k a (b : Int) t) z := fun h =>
        pre (Ev.fls rfl (Ev.fls rfl (Ev.bind hadd2 (Ev.bind c1 (Ev.bind tw (Ev.bind m3 (Ev.bind m4 (Ev.bind hc h))))))))
      by_cases x1 : 2 * q < dv (2 * lo + 1) t
      · rw [if_pos (.inl x1)]
        exact ⟨_, true, pre2 (Ev.tru (dec_t (hsg.1.2 x1)) p29), rfl, rfl⟩
      · have x1' := fun h => x1 (hsg.1.1 h)
        by_cases x2 : 2 * q = dv (2 * lo + 1) t
        · by_cases x3 : lo % 2 = 0
          · rw [if_pos (.inr ⟨x2, x3⟩)]
            exact ⟨_, true, pre2 (Ev.fls (dec_f x1') (Ev.tru (dec_t (hsg.2.2 x2)) (Ev.bind hbit (Ev.tru (by rw [dec_f (by omega)]; rfl) p29)))), rfl, rfl⟩
          · rw [if_neg (fun h => h.elim x1 fun h => x3 h.2)]
            exact ⟨_, true, pre2 (Ev.fls (dec_f x1') (Ev.tru (dec_t (hsg.2.2 x2)) (Ev.bind hbit (Ev.fls (by rw [dec_t (by omega)]; rfl) p31)))), rfl, rfl⟩
        · rw [if_neg (fun h => h.elim x1 fun h => x2 h.1)]
          exact ⟨_, true, pre2 (Ev.fls (dec_f x1') (Ev.fls (dec_f (fun h => x2 (hsg.2.1 h))) p31)), rfl, rfl⟩
    · rw [if_pos ca, if_neg cb]
      rw [dec_t ca, dec_f cb] at pre
      exact ⟨_, true, pre (Ev.fls rfl (Ev.tru rfl (p15 true false))), rfl, rfl⟩
  · rw [if_neg ca]
    rw [dec_f ca] at pre
    by_cases cb : nrw (dv (lo + 1) t) = b
    · rw [if_pos cb]
      rw [dec_t cb] at pre
      exact ⟨_, true, pre (Ev.tru rfl (p15 false true)), rfl, rfl⟩
    · rw [if_neg cb]
      rw [dec_f cb] at pre
      exact ⟨_, false, pre (Ev.tru rfl (p15 false false)), rfl⟩

/-! ### The reference's text -/
theorem strip_take {l : List Int} (_h : strip l ≠ []) : ∀ n : Nat, n ≤ l.length → (strip l).length ≤ n → (n = (strip l).length ∨ nthD 0 l (n - 1) = 48) := by
  intro n hn hle
  by_cases e : n = (strip l).length
  · exact .inl e
  · right
    have hs := strip_split l
    have hlt : (strip l).length ≤ n - 1 := by omega
    rw [hs, nthD_eq, List.getD_eq_getElem?_getD, List.getElem?_append_right hlt, List.getElem?_replicate, if_pos (by omega)]
    rfl
theorem strip_last {l : List Int} (h : strip l ≠ []) : nthD 0 l ((strip l).length - 1) ≠ 48 := by
  have hpos : (strip l).length ≠ 0 := fun h' => h (List.length_eq_zero_iff.1 h')
  have hs := strip_split l
  have e1 : nthD 0 l ((strip l).length - 1) = nthD 0 (strip l) ((strip l).length - 1) := by
    refine (congrArg (fun z => nthD 0 z ((strip l).length - 1)) hs).trans ?_
    show nthD 0 (strip l ++ List.replicate (l.length - (strip l).length) 48) ((strip l).length - 1) = _
    rw [nthD_eq, nthD_eq, List.getD_eq_getElem?_getD, List.getD_eq_getElem?_getD, List.getElem?_append_left (by omega)]
  rw [e1]
  intro hc
  have hsn := snoc_at (l := strip l) (n := (strip l).length - 1) (by omega)
  have h2 : strip (strip l) = strip l := by
    unfold strip
    rw [List.reverse_reverse]
    congr 1
    cases hd : l.reverse.dropWhile (· == 48) with
    | nil => rfl
    | cons x xs =>
      have := d48_head l.reverse
      rw [hd] at this
      have hx : x ≠ 48 := this
      have hb : (x == 48) = false := by simpa using hx
      rw [List.dropWhile_cons, hb]
      simp
  rw [hc] at hsn
  have h3 := strip_snoc ((strip l).take ((strip l).length - 1)) 48
  rw [if_pos rfl, ← hsn, h2] at h3
  have h4 := strip_le ((strip l).take ((strip l).length - 1))
  rw [← h3, List.length_take] at h4
  omega

theorem written_ev {m : Nat} (hm : 0 < m) (hm2 : m < 10 ^ 30) {t : Int} (ht : t.natAbs ≤ 1000) : ∃ s, Ev (fun k => ref04_written.f k (lim m) t) s ∧ bs s = sci (strip (dd m)) (t + ((dd m).length : Int) - 1) := by
  have hLm : FK.L m ≤ 4 := L_le (by omega)
  have htx := (Nt.of (M := 4) (n := m) hLm).rtext (by omega)
  have hdl := dd_len10 hm2 (by omega)
  have hsz : (txt m).size = (dd m).length := by rw [← bs_length, bs_txt]
  have hbt := bs_txt m
  have hne := strip_ne (dd_head m hm) (dd_ne m)
  have hpos : (strip (dd m)).length ≠ 0 := fun h' => hne (List.length_eq_zero_iff.1 h')
  have hsl := strip_le (dd m)
  obtain ⟨x, hx⟩ : ∃ x, t + ((dd m).length : Int) - 1 = x := ⟨_, rfl⟩
  rw [hx]
  have s46 : (ByteArray.mk #[46]).size = 1 := rfl
  have b46 : bs (ByteArray.mk #[46]) = [46] := rfl
  have s101 : (ByteArray.mk #[101]).size = 1 := rfl
  have b101 : bs (ByteArray.mk #[101]) = [101] := rfl
  have s145 : (ByteArray.mk #[101, 45]).size = 2 := rfl
  have b145 : bs (ByteArray.mk #[101, 45]) = [101, 45] := rfl
  -- behind the digits
  have p19 : ∀ u : ByteArray, u.size ≤ 100 → ∃ s, Ev (fun k => ref04_written.p19 k x u) s ∧ bs s = bs u ++ 101 :: ed x := by
    intro u hu
    have hxl : x.natAbs ≤ 1100 := by omega
    have hL4 : FK.L x.natAbs ≤ 4 := L_le (by omega)
    have htt := (Nt.of (M := 4) (n := x.natAbs) hL4).rtext (by omega)
    have hxd := dd_len10 (n := x.natAbs) (t := 4) (by omega) (by omega)
    have hxs : (txt x.natAbs).size ≤ 4 := by rw [← bs_length, bs_txt]; exact hxd
    by_cases hneg : x < 0
    · have hof := rOf_ev (n := ((x.natAbs : Nat) : Int)) (by omega)
      rw [Int.toNat_natCast] at hof
      have hw : IntKind.u64.wrap (IntKind.i64.wrap ((0 : Int) - x)) = ((x.natAbs : Nat) : Int) := by rw [wrap_i64 (by omega) (by omega), wrap_u64]; omega
      have hsz2 : (u ++ ByteArray.mk #[101, 45]).size = u.size + 2 := by rw [← bs_length, bs_append, List.length_append, bs_length, b145]; rfl
      refine ⟨(u ++ ByteArray.mk #[101, 45]) ++ txt x.natAbs, Ev.turn (fun k => ref04_written.p19_succ k _ _) ?_, ?_⟩
      · unfold ref04_written.e19
        rw [hw]
        exact Ev.tru (dec_t hneg) (Ev.bind hof (Ev.bind htt (Ev.fls (dec_f (by rw [max64, s145]; omega)) (Ev.fls (dec_f (by rw [max64, hsz2]; show ¬ (((u.size + 2 + (txt x.natAbs).size : Nat) : Int) > _); omega)) Ev.pure))))
      · rw [bs_append, bs_append, b145]
        unfold ed
        rw [if_pos hneg, bs_txt]
        simp
    · have hof := rOf_ev (n := x) (by omega)
      have hw : IntKind.u64.wrap x = x := by rw [wrap_u64]; omega
      have hxn : x.toNat = x.natAbs := by omega
      rw [hxn] at hof
      have hsz2 : (u ++ ByteArray.mk #[101]).size = u.size + 1 := by rw [← bs_length, bs_append, List.length_append, bs_length, b101]; rfl
      refine ⟨(u ++ ByteArray.mk #[101]) ++ txt x.natAbs, Ev.turn (fun k => ref04_written.p19_succ k _ _) ?_, ?_⟩
      · unfold ref04_written.e19
        rw [hw]
        exact Ev.fls (dec_f hneg) (Ev.bind hof (Ev.bind htt (Ev.fls (dec_f (by rw [max64, s101]; omega)) (Ev.fls (dec_f (by rw [max64, hsz2]; show ¬ (((u.size + 1 + (txt x.natAbs).size : Nat) : Int) > _); omega)) Ev.pure))))
      · rw [bs_append, bs_append, b101]
        unfold ed
        rw [if_neg hneg, bs_txt]
        simp
  have hx1 : ((txt m).extract (Int.toNat (0 : Int)) (Int.toNat (1 : Int))).size = 1 := by rw [ByteArray.size_extract]; simp; omega
  have hxb : bs ((txt m).extract (Int.toNat (0 : Int)) (Int.toNat (1 : Int))) = (dd m).take 1 := by rw [bs_extract, hbt]; simp
  have hst : strip (dd m) = (dd m).take (strip (dd m)).length := by
    have := congrArg (List.take (strip (dd m)).length) (strip_split (dd m))
    rw [List.take_left] at this
    exact this.symm
  have p13 : ∃ s, Ev (fun k => ref04_written.p13 k (txt m) x ((strip (dd m)).length : Int)) s ∧ bs s = sci (strip (dd m)) x := by
    by_cases h1 : 1 < (strip (dd m)).length
    · have hy : ((txt m).extract (Int.toNat (1 : Int)) (Int.toNat ((strip (dd m)).length : Int))).size = (strip (dd m)).length - 1 := by rw [ByteArray.size_extract, Int.toNat_natCast]; simp; omega
      have hyb : bs ((txt m).extract (Int.toNat (1 : Int)) (Int.toNat ((strip (dd m)).length : Int))) = (strip (dd m)).drop 1 := by rw [bs_extract, hbt, Int.toNat_natCast, ← hst]; rfl
      have hxs : (((txt m).extract (Int.toNat (0 : Int)) (Int.toNat (1 : Int))) ++ ByteArray.mk #[46]).size = 2 := by rw [← bs_length, bs_append, List.length_append, bs_length, hx1, b46]; rfl
      obtain ⟨s, g1, g2⟩ := p19 ((((txt m).extract (Int.toNat (0 : Int)) (Int.toNat (1 : Int))) ++ ByteArray.mk #[46]) ++ ((txt m).extract (Int.toNat (1 : Int)) (Int.toNat ((strip (dd m)).length : Int)))) (by
        rw [← bs_length, bs_append, List.length_append, bs_length, bs_length, hxs, hy]; omega)
      refine ⟨s, Ev.turn (fun k => ref04_written.p13_succ k _ _ _) ?_, ?_⟩
      · unfold ref04_written.e13
        exact Ev.tru (by simp; omega) (Ev.tru (dec_t (by omega)) (Ev.fls (dec_f (by rw [max64, hx1, s46]; omega)) (Ev.tru (by simp; omega) (Ev.fls (dec_f (by rw [max64, hxs, hy]; omega)) g1))))
      · rw [g2, bs_append, bs_append, hxb, hyb, b46]
        unfold sci
        rw [if_pos h1]
        have : (strip (dd m)).take 1 = (dd m).take 1 := by
          rw [hst, List.take_take]; congr 1; omega
        rw [this]
        simp
    · obtain ⟨s, g1, g2⟩ := p19 ((txt m).extract (Int.toNat (0 : Int)) (Int.toNat (1 : Int))) (by omega)
      refine ⟨s, Ev.turn (fun k => ref04_written.p13_succ k _ _ _) ?_, ?_⟩
      · unfold ref04_written.e13
        exact Ev.tru (by simp; omega) (Ev.fls (dec_f (by omega)) g1)
      · rw [g2, hxb]
        unfold sci
        rw [if_neg h1]
        have : strip (dd m) = (dd m).take 1 := by
          conv => lhs; rw [hst]
          congr 1; omega
        rw [← this]
  obtain ⟨s, g1, g2⟩ := p13
  have loop : ∀ d n : Nat, n = (strip (dd m)).length + d → n ≤ (dd m).length → Ev (fun k => ref04_written.p0 k (txt m) x (n : Int)) s := by
    intro d
    induction d with
    | zero =>
      intro n hn hle
      refine Ev.turn (fun k => ref04_written.p0_succ k _ _ _) ?_
      unfold ref04_written.e0
      rw [show n = (strip (dd m)).length by omega]
      by_cases h1 : 1 < (strip (dd m)).length
      · have hw : IntKind.i64.wrap (((strip (dd m)).length : Int) - 1) = (((strip (dd m)).length - 1 : Nat) : Int) := by rw [wrap_i64 (by omega) (by omega)]; omega
        rw [hw, bs_btI, hbt]
        exact Ev.tru (dec_t (by omega)) (Ev.tru (by simp; omega) (Ev.fls (dec_f (strip_last hne)) g1))
      · exact Ev.fls (dec_f (by omega)) g1
    | succ d ih =>
      intro n hn hle
      refine Ev.turn (fun k => ref04_written.p0_succ k _ _ _) ?_
      unfold ref04_written.e0
      have hw : IntKind.i64.wrap ((n : Int) - 1) = ((n - 1 : Nat) : Int) := by rw [wrap_i64 (by omega) (by omega)]; omega
      rw [hw, bs_btI, hbt]
      have h48 := (strip_take hne n hle (by omega)).resolve_left (by omega)
      exact Ev.tru (dec_t (by omega)) (Ev.tru (by simp; omega) (Ev.tru (dec_t h48) (ih (n - 1) (by omega) (by omega))))
  refine ⟨s, ?_, g2⟩
  unfold ref04_written.f ref04_written.e
  refine Ev.bind htx ?_
  have hw : IntKind.i64.wrap ((IntKind.i64.wrap (t + ((txt m).size : Int))) - 1) = x := by
    rw [hsz, wrap_i64 (n := t + ((dd m).length : Int)) (by omega) (by omega), wrap_i64 (by omega) (by omega)]; omega
  rw [hw, hsz]
  exact loop ((dd m).length - (strip (dd m)).length) (dd m).length (by omega) (Nat.le_refl _)

/-! ### The reference's Short -/
theorem rpower_fr {e : Nat} (he : e ≤ 2045) : ∃ r N D, Ev (fun f => ref04_power.f f ((e : Int) - 1074)) r ∧ Fr 100 r (pw e) N D ∧ N ≤ 2 ^ 971 ∧ D ≤ 2 ^ 1074 ∧ 0 < N := by
  unfold ref04_power.f ref04_power.e
  have o1 : Nt 100 [1] 1 := one_ntf (by omega)
  by_cases h : e < 1074
  · have e1 : IntKind.i64.wrap (0 - ((e : Int) - 1074)) = ((1074 - e : Nat) : Int) := by rw [wrap_i64 (by omega) (by omega)]; omega
    have := o1.rshift_up (by omega) (1074 - e) (by omega)
    rw [Nat.one_mul] at this
    rw [e1]
    refine ⟨_, 1, 2 ^ (1074 - e), Ev.tru (dec_t (by omega)) (Ev.bind this Ev.pure), ⟨rfl, o1, Nt.of (Nat.le_trans (L_pow _) (by omega)), Nat.ne_of_gt (Nat.two_pow_pos _), ?_⟩, Nat.one_le_two_pow, Nat.pow_le_pow_right (by omega) (by omega), by omega⟩
    rw [← mk_pw_neg (s := 1074 - e) (e := e) (by omega)]
    exact mkRat_mul_den (z := 1) (Nat.ne_of_gt (Nat.two_pow_pos _))
  · have e1 : ((e : Int) - 1074) = ((e - 1074 : Nat) : Int) := by omega
    have := o1.rshift_up (by omega) (e - 1074) (by omega)
    rw [Nat.one_mul] at this
    rw [e1]
    refine ⟨_, 2 ^ (e - 1074), 1, Ev.fls (dec_f (by omega)) (Ev.bind this Ev.pure), ⟨rfl, Nt.of (Nat.le_trans (L_pow _) (by omega)), o1, by omega, ?_⟩, Nat.pow_le_pow_right (by omega) (by omega), Nat.one_le_two_pow, Nat.two_pow_pos _⟩
    rw [← mk_pw_pos (s := e - 1074) (e := e) (by omega)]
    exact mkRat_mul_den (z := ((2 ^ (e - 1074) : Nat) : Int)) (d := 1) (by omega)

theorem scaled_fr {k : Nat} (hk0 : 0 < k) (hk : k ≤ 9218868437227405311) : ∃ r N D, Ev (fun f => ref04_scaled.f f (mOf k : Int) ((eOf k : Int) - 1074)) r ∧ Fr 300 r (num false k) N D ∧ N < 2 ^ 1030 ∧ D ≤ 2 ^ 1074 ∧ 0 < N := by
  have hp := parts_ok k
  obtain ⟨r, N, D, h1, ⟨_, hN, hD, hD0, hq⟩, b1, b2, b3⟩ := rpower_fr (e := eOf k) (by unfold eOf; omega)
  have hof := rOf_ev (n := (mOf k : Int)) (by omega)
  rw [Int.toNat_natCast] at hof
  have hm0 : 0 < mOf k := by unfold mOf; split <;> omega
  have nm : Nt 100 (FK.lim (mOf k)) (mOf k) := Nt.of (Nat.le_trans (L_le (m := 2) (by omega)) (by omega))
  have hmul := nm.rmul hN (by omega)
  have hL := L_mul (mOf k) N
  have := nm.L
  have := hN.L
  refine ⟨((false, FK.lim (mOf k * N)), r.2), mOf k * N, D, ?_, ⟨rfl, Nt.of (by omega), hD.mono (by omega), hD0, ?_⟩, ?_, b2, Nat.mul_pos hm0 b3⟩
  · unfold ref04_scaled.f ref04_scaled.e
    exact Ev.bind h1 (Ev.bind hof (Ev.bind hmul Ev.pure))
  · rw [← num_parts, Rat.mul_assoc, hq, Rat.natCast_mul]
  · have h2 : mOf k * N < 2 ^ 53 * 2 ^ 971 := Nat.mul_lt_mul_of_lt_of_le (by omega) b1 (Nat.two_pow_pos _)
    rw [← Nat.pow_add] at h2
    exact Nat.lt_of_lt_of_le h2 (Nat.pow_le_pow_right (by omega) (by omega))

theorem rshort_pos {k : Nat} (hk0 : 0 < k) (hk : k ≤ 9218868437227405311) {x : Int} (hx : bitsI .andNot .u64 x 9223372036854775808 = (k : Int)) (ah : ByteArray) (hah : ah.size ≤ 1) : ∃ t, Ev (fun f => ref04_Short.p19 f x ah) (t, (0 : Int)) ∧ ∃ l0, bs t = bs ah ++ l0 ∧ SIs k l0 := by
  obtain ⟨top, h0, h3, h1, h2⟩ := top_exists hk0 hk
  obtain ⟨a, N, D, s1, s2, s3, s4, s5⟩ := scaled_fr hk0 hk
  have hqpos := num_pos hk0
  have s2' := s2.mono (M' := 500) (by omega)
  have s2'' := s2.mono (M' := 8000) (by omega)
  -- the digits
  have dig : ∀ d n : Nat, n + d = 17 → 1 ≤ n → (∀ n' : Nat, 1 ≤ n' → n' < n → pick k (num false k) (top - n' + 1) = none) → ∃ t, Ev (fun f => ref04_Short.p4 f a (k : Int) ah top (n : Int)) (t, (0 : Int)) ∧ ∃ l0, bs t = bs ah ++ l0 ∧ SIs k l0 := by
    intro d
    have found : ∀ n m : Nat, 1 ≤ n → n ≤ 17 → pick k (num false k) (top - n + 1) = some m → (∀ n' : Nat, 1 ≤ n' → n' < n → pick k (num false k) (top - n' + 1) = none) → Ev (fun f => ref04_shortest.f f a (k : Int) (top - n + 1)) (lim m, true) → ∃ t, Ev (fun f => ref04_Short.p4 f a (k : Int) ah top (n : Int)) (t, (0 : Int)) ∧ ∃ l0, bs t = bs ah ++ l0 ∧ SIs k l0 := by
      intro n m hn1 hn hp hno hs
      obtain ⟨_, hm⟩ := pick_spec hp
      obtain ⟨d1, d2⟩ := lod_digits (Rat.le_of_lt hqpos) h1 h2 hn1
      have hpow : 10 ^ n ≤ 10 ^ 17 := Nat.pow_le_pow_right (by omega) hn
      have hpow1 : 1 ≤ 10 ^ (n - 1) := Nat.pow_pos (by omega)
      obtain ⟨w, w1, w2⟩ := written_ev (m := m) (by omega) (by omega) (t := top - n + 1) (by omega)
      have hdl := dd_len10 (n := m) (t := 18) (by omega) (by omega)
      have hsl := strip_le (dd m)
      have hlen := sci_len (strip (dd m)) (e := top - n + 1 + ((dd m).length : Int) - 1) (by omega)
      have hws : w.size ≤ 100 := by rw [← bs_length, w2]; omega
      refine ⟨ah ++ w, Ev.turn (fun f => ref04_Short.p4_succ f _ _ _ _ _) ?_, bs w, bs_append _ _, top, n, m, hn1, hn, h0, h3, h1, h2, hp, hno, w2⟩
      unfold ref04_Short.e4
      have hw : IntKind.i64.wrap ((IntKind.i64.wrap (top - (n : Int))) + 1) = top - n + 1 := by rw [wrap_i64 (n := top - (n : Int)) (by omega) (by omega), wrap_i64 (by omega) (by omega)]
      rw [hw]
      exact Ev.tru (dec_t (by omega)) (Ev.bind hs (Ev.tru rfl (Ev.bind w1 (Ev.fls (dec_f (by rw [max64]; omega)) Ev.pure))))
    induction d with
    | zero =>
      intro n hn hn1 hno
      have e : n = 17 := by omega
      subst e
      obtain ⟨l, ok, g1, g2⟩ := rshortest_ev s2' hqpos h0 h3 h1 h2 hn1 (by omega) k
      have hne := pick17 hk0 hk h1
      cases hp : pick k (num false k) (top - (17 : Nat) + 1) with
      | none => exact absurd hp (by rw [show top - ((17 : Nat) : Int) + 1 = top - 16 by omega]; exact hne)
      | some m =>
        rw [hp] at g2
        obtain ⟨rfl, rfl⟩ := g2
        exact found 17 m hn1 (by omega) hp hno g1
    | succ d ih =>
      intro n hn hn1 hno
      obtain ⟨l, ok, g1, g2⟩ := rshortest_ev s2' hqpos h0 h3 h1 h2 hn1 (by omega) k
      cases hp : pick k (num false k) (top - n + 1) with
      | none =>
        rw [hp] at g2
        have g2 : ok = false := g2
        subst g2
        obtain ⟨t, g3, g4⟩ := ih (n + 1) (by omega) (by omega) (fun n' a1 a2 => by
          rcases Nat.lt_succ_iff_lt_or_eq.1 a2 with h | h
          · exact hno n' a1 h
          · rw [h]; exact hp)
        refine ⟨t, Ev.turn (fun f => ref04_Short.p4_succ f _ _ _ _ _) ?_, g4⟩
        unfold ref04_Short.e4
        have hw : IntKind.i64.wrap ((IntKind.i64.wrap (top - (n : Int))) + 1) = top - n + 1 := by rw [wrap_i64 (n := top - (n : Int)) (by omega) (by omega), wrap_i64 (by omega) (by omega)]
        rw [hw, wrap_i64 (n := (n : Int) + 1) (by omega) (by omega)]
        rw [show (((n + 1 : Nat) : Nat) : Int) = (n : Int) + 1 by omega] at g3
        exact Ev.tru (dec_t (by omega)) (Ev.bind g1 (Ev.fls rfl g3))
      | some m =>
        rw [hp] at g2
        obtain ⟨rfl, rfl⟩ := g2
        exact found n m hn1 (by omega) hp hno g1
  obtain ⟨t, t1, t2⟩ := dig 16 1 (by omega) (by omega) (fun n' a1 a2 => by omega)
  -- the power of ten
  have pow : ∀ d : Nat, ∀ e : Int, e + d = top → -340 ≤ e → Ev (fun f => ref04_Short.p0 f a (k : Int) ah e) (t, (0 : Int)) := by
    intro d
    induction d with
    | zero =>
      intro e he hle
      have hl := rlessTens_ev s2'' (e + 1) (by omega)
      refine Ev.turn (fun f => ref04_Short.p0_succ f _ _ _ _) ?_
      unfold ref04_Short.e0
      rw [wrap_i64 (by omega) (by omega)]
      have e0 : e = top := by omega
      rw [e0] at hl ⊢
      exact Ev.bind hl (Ev.fls (dec_f (Rat.not_le.2 h2)) t1)
    | succ d ih =>
      intro e he hle
      have hl := rlessTens_ev s2'' (e + 1) (by omega)
      refine Ev.turn (fun f => ref04_Short.p0_succ f _ _ _ _) ?_
      unfold ref04_Short.e0
      rw [wrap_i64 (by omega) (by omega)]
      exact Ev.bind hl (Ev.tru (dec_t ((top_of h1 h2).2 (by omega))) (ih (e + 1) (by omega) (by omega)))
  -- the guess
  obtain ⟨_, hN, hD, hD0, hq⟩ := s2
  obtain ⟨rn, bn, en⟩ := hN.rbits (by omega)
  obtain ⟨rd, bd, ed'⟩ := hD.rbits (by omega)
  have hlown := bn.low (by omega)
  have hlowd := bd.low hD0
  have hrn : rn - 1 < 1030 := (Nat.pow_lt_pow_iff_right (by omega : 1 < 2)).1 (Nat.lt_of_le_of_lt hlown.2 s3)
  have hrd : rd - 1 ≤ 1074 := by
    rcases Nat.lt_or_ge 1074 (rd - 1) with h | h
    · have := Nat.pow_lt_pow_right (by omega : 1 < 2) h
      omega
    · exact h
  have hnb : 2 ^ rn ≤ 2 * N := by
    have : 2 ^ rn = 2 * 2 ^ (rn - 1) := by
      conv => lhs; rw [show rn = (rn - 1) + 1 by omega, Nat.pow_succ]
      omega
    omega
  obtain ⟨n, hn⟩ : ∃ n : Nat, n + rd = rn + 1100 := ⟨rn + 1100 - rd, by omega⟩
  have hg := guess_le hq hnb (Nat.le_of_lt bd.lt) (Rat.le_of_lt hqpos) hn (by omega)
  have hgt := (top_of h1 h2).1 hg
  have hq2 : n * 30103 / 100000 ≤ 700 := by omega
  refine ⟨t, Ev.turn (fun f => ref04_Short.p19_succ f _ _) ?_, t2⟩
  unfold ref04_Short.e19
  rw [hx]
  have hw : IntKind.i64.wrap ((IntKind.i64.wrap (Int.tdiv (IntKind.i64.wrap ((IntKind.i64.wrap ((IntKind.i64.wrap ((rn : Int) - (rd : Int))) + (1100 : Int))) * (30103 : Int))) (100000 : Int))) - (334 : Int)) = ((n * 30103 / 100000 : Nat) : Int) - 334 := by
    rw [wrap_i64 (n := (rn : Int) - (rd : Int)) (by omega) (by omega), wrap_i64 (n := (rn : Int) - (rd : Int) + 1100) (by omega) (by omega), show (rn : Int) - (rd : Int) + 1100 = (n : Int) by omega, wrap_i64 (n := (n : Int) * 30103) (by omega) (by omega),
      Int.tdiv_eq_ediv_of_nonneg (by omega), show (n : Int) * 30103 / 100000 = ((n * 30103 / 100000 : Nat) : Int) by omega, wrap_i64 (n := ((n * 30103 / 100000 : Nat) : Int)) (by omega) (by omega), wrap_i64 (by omega) (by omega)]
  have hstart := pow (top - (((n * 30103 / 100000 : Nat) : Int) - 334)).toNat (((n * 30103 / 100000 : Nat) : Int) - 334) (by omega) (by omega)
  rw [← hw] at hstart
  exact Ev.fls (dec_f (by omega)) (Ev.bind (parts_ev (by omega)) (Ev.bind s1 (Ev.bind en (Ev.bind ed' hstart))))

theorem rshort_ev (s : Bool) {k : Nat} (hk : k ≤ 9218868437227405311) : ∃ t, Ev (fun f => ref04_Short.f f (fb s k)) (t, (0 : Int)) ∧ SL s k (bs t) := by
  have hlt := fb_lt (s := s) (k := k) (by omega)
  have hf := fin_fbk (s := s) hk
  have hmod := fb_mod (s := s) (k := k) (by omega)
  have hn := risNaN_ev hlt
  have hi := risInf_ev hlt
  rw [hf.nan] at hn
  rw [hf.inf] at hi
  have hcl := bits_clear hlt
  rw [hmod] at hcl
  have htop := bits_top hlt
  have go : ∀ ah : ByteArray, ah.size ≤ 1 → bs ah = (if s = true then [45] else []) → ∃ t, Ev (fun f => ref04_Short.p19 f ((fb s k : Nat) : Int) ah) (t, (0 : Int)) ∧ SL s k (bs t) := by
    intro ah hah hb
    by_cases hk0 : k = 0
    · refine ⟨ah ++ ByteArray.mk #[48], Ev.turn (fun f => ref04_Short.p19_succ f _ _) ?_, [48], by rw [bs_append, hb]; rfl, by rw [if_pos hk0]⟩
      unfold ref04_Short.e19
      rw [hcl]
      have s48 : (ByteArray.mk #[48]).size = 1 := rfl
      exact Ev.tru (dec_t (by omega)) (Ev.fls (dec_f (by rw [max64, s48]; omega)) Ev.pure)
    · obtain ⟨t, g1, l0, g2, g3⟩ := rshort_pos (by omega) hk hcl ah hah
      exact ⟨t, g1, l0, by rw [g2, hb], by rw [if_neg hk0]; exact g3⟩
  unfold ref04_Short.f ref04_Short.e math_Float64bits.f
  cases hs : s with
  | true =>
    rw [hs] at go htop
    obtain ⟨t, g1, g2⟩ := go (ByteArray.mk #[45]) (by decide) rfl
    have e : ¬ fb true k < 9223372036854775808 := by unfold fb; simp
    rw [if_neg e] at htop
    rw [hs] at hn hi
    refine ⟨t, Ev.bind Ev.pure (Ev.bind hn (Ev.fls rfl (Ev.bind hi (Ev.fls rfl (Ev.tru ?_ g1))))), g2⟩
    simp only [htop]; decide
  | false =>
    rw [hs] at go htop
    obtain ⟨t, g1, g2⟩ := go (ByteArray.mk #[]) (by decide) rfl
    have e : fb false k < 9223372036854775808 := by unfold fb; simp; omega
    rw [if_pos e] at htop
    rw [hs] at hn hi
    refine ⟨t, Ev.bind Ev.pure (Ev.bind hn (Ev.fls rfl (Ev.bind hi (Ev.fls rfl (Ev.fls ?_ g1))))), g2⟩
    simp only [htop]; decide

theorem SIs.unique {k : Nat} {l l' : List Int} (h : SIs k l) (g : SIs k l') : l = l' := by
  obtain ⟨top, n, m, a1, a2, a3, a4, a5, a6, a7, a8, a9⟩ := h
  obtain ⟨top', n', m', b1, b2, b3, b4, b5, b6, b7, b8, b9⟩ := g
  have e : top = top' := by
    have h1 := (top_of a5 a6).1 b5
    have h2 := (top_of b5 b6).1 a5
    omega
  subst e
  have e : n = n' := by
    rcases Nat.lt_trichotomy n n' with h | h | h
    · have := b8 n a1 h; rw [a7] at this; cases this
    · exact h
    · have := a8 n' b1 h; rw [b7] at this; cases this
  subst e
  rw [a7] at b7
  cases b7
  rw [a9, b9]
theorem SL.unique {s : Bool} {k : Nat} {l l' : List Int} (h : SL s k l) (g : SL s k l') : l = l' := by
  obtain ⟨l0, h1, h2⟩ := h
  obtain ⟨l1, g1, g2⟩ := g
  rw [h1, g1]
  congr 1
  by_cases hk : k = 0
  · rw [if_pos hk] at h2 g2
    rw [h2, g2]
  · rw [if_neg hk] at h2 g2
    exact h2.unique g2

/-! ### The law -/
theorem shorts_ev {x : Nat} (hx : x < 18446744073709551616) : Ev (fun f => law04_ApproxShorts.f f x) true := by
  unfold law04_ApproxShorts.f law04_ApproxShorts.e
  by_cases hf : Fin x
  · have hx2 : x = fb (x / 9223372036854775808 % 2 == 1) (x % 9223372036854775808) := by
      unfold fb
      by_cases c : x / 9223372036854775808 % 2 = 1
      · have e : (x / 9223372036854775808 % 2 == 1) = true := by simpa using c
        rw [e, if_pos rfl]; omega
      · have e : (x / 9223372036854775808 % 2 == 1) = false := by simpa using c
        rw [e, if_neg (by simp)]; omega
    have hk : x % 9223372036854775808 ≤ 9218868437227405311 := hf
    generalize (x / 9223372036854775808 % 2 == 1) = s at *
    generalize x % 9223372036854775808 = k at *
    subst hx2
    obtain ⟨t, h1, h2⟩ := short_ev s hk
    obtain ⟨u, g1, g2⟩ := rshort_ev s hk
    refine Ev.bind h1 (Ev.bind g1 (Ev.tru (dec_t rfl) (Ev.eq ?_)))
    rw [beq_bs, dec_t (h2.unique g2)]
  · have hor : isN x = true ∨ (isN x = false ∧ isI x = true) := by
      cases h1 : isN x with
      | true => exact .inl rfl
      | false =>
        right
        refine ⟨rfl, ?_⟩
        cases h2 : isI x with
        | true => rfl
        | false => exact absurd (fin_iff.1 (by rw [h1, h2]; rfl)) hf
    have hn := risNaN_ev hx
    have hi := risInf_ev hx
    have key : ∀ c : Int, c ≠ 0 → Ev (fun f => approx_Exact.f f x) (noRat, c) → Ev (fun f => ref04_Short.f f x) (ByteArray.mk #[], c) → Ev (fun f => law04_ApproxShorts.e f x) true := fun c hc he hr => by
      have hs : Ev (fun f => approx_Short.f f x) (ByteArray.mk #[], c) := by
        refine Ev.turn (fun f => approx_Short.f_succ f _) ?_
        unfold approx_Short.e
        exact Ev.bind he (Ev.tru (by rw [dec_f hc]; rfl) Ev.pure)
      unfold law04_ApproxShorts.e
      exact Ev.bind hs (Ev.bind hr (Ev.tru (dec_t rfl) (Ev.eq (by rw [beq_bs, dec_t rfl]))))
    have : Ev (fun f => law04_ApproxShorts.e f x) true := by
      rcases hor with h | ⟨h, h'⟩
      · rw [h] at hn
        refine key 40 (by omega) (exact_nan h) ?_
        unfold ref04_Short.f ref04_Short.e math_Float64bits.f
        exact Ev.bind Ev.pure (Ev.bind hn (Ev.tru rfl Ev.pure))
      · rw [h] at hn
        rw [h'] at hi
        refine key 41 (by omega) (exact_inf hx h') ?_
        unfold ref04_Short.f ref04_Short.e math_Float64bits.f
        exact Ev.bind Ev.pure (Ev.bind hn (Ev.fls rfl (Ev.bind hi (Ev.tru rfl Ev.pure))))
    unfold law04_ApproxShorts.e at this
    exact this

theorem shorts_math (x : TD [.flt]) (hw : wfDs (encT [.flt] x)) (_hm : massDs (encT [.flt] x) ≤ 1048576) : ∃ k, law04_ApproxShorts.f k x = some true := by
  have h : (show Nat from x) < 18446744073709551616 := hw.1
  exact (shorts_ev h).some

end Go.FK
