import Derived.Test.YtedocilafacliaaGreatDoorM5
import Derived.Test.YtedocilafacliaaGreatDoorM4
import Derived.Test.YtedocilafacliaaGreatDoorM3

/- Rounding: what stands near to a float is rounded to it. -/
namespace Go.FK
open Flt
set_option exponentiation.threshold 20000

/-- The float nearest to w, w not below 0. -/
def Rds (w : Rat) (b : Nat) : Prop := ∃ k a, Pl w k a ∧ nr k a = b

theorem pl_nonneg {w : Rat} (h : ¬ w < 0) {k : Nat} {a : Int} : Pl w k a ↔ At (w * (TT : Rat)) k a := by
  show At (w.abs * (TT : Rat)) k a ↔ _
  rw [abs_if, if_neg h]

theorem Rds.unique {w : Rat} {b c : Nat} (h : Rds w b) (g : Rds w c) : b = c := by
  obtain ⟨k, a, h1, rfl⟩ := h
  obtain ⟨k', a', h2, rfl⟩ := g
  obtain ⟨rfl, rfl⟩ := h1.unique h2
  rfl

theorem Rds.mono {w v : Rat} (hw : ¬ w < 0) (hwv : w ≤ v) {b c : Nat} (h : Rds w b) (g : Rds v c) : b ≤ c := by
  obtain ⟨k, a, h1, rfl⟩ := h
  obtain ⟨k', a', h2, rfl⟩ := g
  have hv : ¬ v < 0 := by grind
  rw [pl_nonneg hw] at h1
  rw [pl_nonneg hv] at h2
  have n1 := nr_le (k := k) (a := a)
  have n2 := nr_le (k := k') (a := a')
  rcases h1.mono h2 (Rat.mul_le_mul_of_nonneg_right hwv (Rat.le_of_lt TT_posR)) with hlt | ⟨rfl, hle⟩
  · omega
  · have := h2.cases
    exact nr_mono hle (by omega)

theorem Rds.mid {w v u : Rat} (hw : ¬ w < 0) (h1 : w ≤ v) (h2 : v ≤ u) {b c : Nat} (h : Rds w b) (g : Rds u b) (hv : Rds v c) : c = b := by
  have a1 := h.mono hw h1 hv
  have a2 := hv.mono (by grind) h2 g
  omega

theorem U_gap (k : Nat) : U (k + 1) ≤ U k + 2 ^ eOf k ∧ U k + 2 ^ eOf k ≤ U (k + 1) ∧ U k < 9007199254740992 * 2 ^ eOf k ∧ U (k + 1) ≤ 9007199254740992 * 2 ^ eOf k := by
  have h1 := U_succ k
  have h2 := U_parts k
  have h3 := U_next k
  have h4 := (parts_ok k).2
  have hp : 0 < 2 ^ eOf k := Nat.two_pow_pos _
  refine ⟨by omega, by omega, ?_, ?_⟩
  · rw [h2]; exact Nat.mul_lt_mul_of_pos_right h4 hp
  · rw [h3]; exact Nat.mul_le_mul_right _ (by omega)

/-- What lies nearer to a float than its 2 times 10 to the 16th part is rounded to it. -/
theorem near_rds {b : Nat} (hb0 : 0 < b) (hb : b ≤ 9218868437227405311) {w : Rat} (hw : ¬ w < 0)
    (h1 : (w * (TT : Rat) - (U b : Rat)) * 20000000000000000 ≤ (U b : Rat)) (h2 : ((U b : Rat) - w * (TT : Rat)) * 20000000000000000 ≤ (U b : Rat)) : Rds w b := by
  obtain ⟨c, rfl⟩ : ∃ c, b = c + 1 := ⟨b - 1, by omega⟩
  have hy0 : (0 : Rat) ≤ w * (TT : Rat) := Rat.mul_nonneg (Rat.not_lt.1 hw) (Rat.le_of_lt TT_posR)
  obtain ⟨g1, g2, g3, g4⟩ := U_gap (c + 1)
  obtain ⟨l1, l2, l3, l4⟩ := U_gap c
  have hup : (9007199254740992 : Rat) * ((U (c + 1 + 1) : Rat) - (U (c + 1) : Rat)) ≥ (U (c + 1) : Rat) := by
    have : U (c + 1) + 9007199254740992 * U (c + 1) ≤ 9007199254740992 * U (c + 1 + 1) := by omega
    have h' : (((U (c + 1) + 9007199254740992 * U (c + 1) : Nat) : Nat) : Rat) ≤ ((9007199254740992 * U (c + 1 + 1) : Nat) : Rat) := by exact_mod_cast this
    rw [Rat.natCast_add, Rat.natCast_mul, Rat.natCast_mul] at h'
    have e : ((9007199254740992 : Nat) : Rat) = (9007199254740992 : Rat) := rfl
    rw [e] at h'
    grind
  have hdn : (9007199254740992 : Rat) * ((U (c + 1) : Rat) - (U c : Rat)) ≥ (U (c + 1) : Rat) := by
    have : U (c + 1) + 9007199254740992 * U c ≤ 9007199254740992 * U (c + 1) := by omega
    have h' : (((U (c + 1) + 9007199254740992 * U c : Nat) : Nat) : Rat) ≤ ((9007199254740992 * U (c + 1) : Nat) : Rat) := by exact_mod_cast this
    rw [Rat.natCast_add, Rat.natCast_mul, Rat.natCast_mul] at h'
    have e : ((9007199254740992 : Nat) : Rat) = (9007199254740992 : Rat) := rfl
    rw [e] at h'
    grind
  have hpos : (0 : Rat) < (U (c + 1) : Rat) := by
    have : 0 < U (c + 1) := Nat.lt_of_le_of_lt (Nat.zero_le _) (U_lt_succ c)
    exact_mod_cast this
  have hc0 : (0 : Rat) ≤ (U c : Rat) := Rat.natCast_nonneg
  obtain ⟨y, hy⟩ : ∃ y, w * (TT : Rat) = y := ⟨_, rfl⟩
  rw [hy] at h1 h2 hy0
  unfold Rds
  by_cases h : y < (U (c + 1) : Rat)
  · refine ⟨c, 2, (pl_nonneg hw).2 ?_, by unfold nr; simp⟩
    rw [hy]
    have hmid : (U c : Rat) + U (c + 1) < 2 * y := by grind
    exact ⟨by omega, by grind, Or.inr h, Or.inr (Or.inr (Or.inr ⟨rfl, by grind, hmid⟩))⟩
  · by_cases he : (U (c + 1) : Rat) = y
    · refine ⟨c + 1, -1, (pl_nonneg hw).2 ?_, by unfold nr; simp⟩
      rw [hy]
      exact ⟨hb, by grind, Or.inr (by grind), Or.inl ⟨rfl, he⟩⟩
    · refine ⟨c + 1, 0, (pl_nonneg hw).2 ?_, by unfold nr; simp⟩
      rw [hy]
      have hmid : 2 * y < (U (c + 1) : Rat) + U (c + 1 + 1) := by grind
      exact ⟨hb, by grind, Or.inr (by grind), Or.inr (Or.inl ⟨rfl, by grind, hmid⟩)⟩

/-! ### Where a float's number stands among the powers of ten -/
theorem p10_lt {a b : Int} (h : a < b) : p10 a < p10 b := by
  obtain ⟨j, hj⟩ : ∃ j : Nat, b = a + ((j + 1 : Nat) : Int) := ⟨(b - a - 1).toNat, by omega⟩
  rw [hj, p10_add_nat]
  have h0 := p10_pos a
  have h1 : (1 : Rat) < ((10 ^ (j + 1) : Nat) : Rat) := by
    have : 1 < 10 ^ (j + 1) := by
      rw [Nat.pow_succ]
      have := Nat.pow_pos (n := j) (by omega : 0 < 10)
      omega
    exact_mod_cast this
  have := Rat.mul_lt_mul_of_pos_left h1 h0
  rwa [Rat.mul_one] at this
theorem p10_le {a b : Int} (h : a ≤ b) : p10 a ≤ p10 b := by
  by_cases e : a = b
  · subst e; exact Rat.le_refl
  · exact Rat.le_of_lt (p10_lt (by omega))

end Go.FK


/- Seventeen digits are enough; the power of ten that a float's number stands at; which of two neighbours is taken. -/
namespace Go.FK
open Flt
set_option exponentiation.threshold 20000

theorem le_of_mul {a b c : Rat} (hc : 0 < c) (h : a * c ≤ b * c) : a ≤ b := by
  rw [← Rat.not_lt] at h ⊢
  exact fun h' => h ((Rat.mul_lt_mul_right hc).2 h')
theorem num_mul_TT (b : Nat) : num false b * (TT : Rat) = (U b : Rat) := by rw [num_TT, S_false]
theorem U_pos {b : Nat} (h : 0 < b) : 0 < U b := by
  obtain ⟨c, rfl⟩ : ∃ c, b = c + 1 := ⟨b - 1, by omega⟩
  exact Nat.lt_of_le_of_lt (Nat.zero_le _) (U_lt_succ c)
theorem num_pos {b : Nat} (h : 0 < b) : 0 < num false b := by
  have h1 := num_mul_TT b
  have h2 : (0 : Rat) < (U b : Rat) := by exact_mod_cast U_pos h
  rw [← h1] at h2
  have h3 : (0 : Rat) * (TT : Rat) < num false b * (TT : Rat) := by rw [Rat.zero_mul]; exact h2
  exact (Rat.mul_lt_mul_right TT_posR).1 h3

/-- A number of seventeen digits next to a float is rounded to it. -/
theorem near17 {b : Nat} (hb0 : 0 < b) (hb : b ≤ 9218868437227405311) {top : Int} (ht : p10 top ≤ num false b) {w : Rat} (hw : ¬ w < 0)
    (h1 : (w - num false b) * 2 ≤ p10 (top - 16)) (h2 : (num false b - w) * 2 ≤ p10 (top - 16)) : Rds w b := by
  have hp := p10_add_nat (top - 16) 16
  rw [show top - 16 + ((16 : Nat) : Int) = top by omega, show ((10 ^ 16 : Nat) : Rat) = (10000000000000000 : Rat) from rfl] at hp
  have hU := num_mul_TT b
  have hT := TT_posR
  refine near_rds hb0 hb hw ?_ ?_
  · have h3 : (w - num false b) * 2 * 10000000000000000 ≤ num false b := by
      have := Rat.mul_le_mul_of_nonneg_right h1 (show (0 : Rat) ≤ 10000000000000000 by decide)
      grind
    have := Rat.mul_le_mul_of_nonneg_right h3 (Rat.le_of_lt hT)
    rw [hU] at this
    grind
  · have h3 : (num false b - w) * 2 * 10000000000000000 ≤ num false b := by
      have := Rat.mul_le_mul_of_nonneg_right h2 (show (0 : Rat) ≤ 10000000000000000 by decide)
      grind
    have := Rat.mul_le_mul_of_nonneg_right h3 (Rat.le_of_lt hT)
    rw [hU] at this
    grind

theorem U_top {b : Nat} (hb : b ≤ 9218868437227405311) : U b < 2 ^ 2098 := by
  have h := U_mono hb
  have e : U 9218868437227405311 = (2 ^ 53 - 1) * 2 ^ 2045 := by decide +kernel
  rw [e] at h
  have : (2 ^ 53 - 1) * 2 ^ 2045 < 2 ^ 2098 := by decide +kernel
  omega

theorem top_exists {b : Nat} (hb0 : 0 < b) (hb : b ≤ 9218868437227405311) : ∃ top : Int, -324 ≤ top ∧ top ≤ 308 ∧ p10 top ≤ num false b ∧ num false b < p10 (top + 1) := by
  have hU := num_mul_TT b
  have hT := TT_posR
  have h1 : (1 : Rat) ≤ (U b : Rat) := by exact_mod_cast U_pos hb0
  have h2 : (U b : Rat) < ((2 ^ 2098 : Nat) : Rat) := by exact_mod_cast U_top hb
  have hlo : p10 (-324) ≤ num false b := by
    have h3 := p10_negs 324
    have h4 : (TT : Rat) ≤ ((10 ^ 324 : Nat) : Rat) := by
      have : TT ≤ 10 ^ 324 := by decide +kernel
      exact_mod_cast this
    have h5 := p10_pos (-((324 : Nat) : Int))
    rw [show (-324 : Int) = -((324 : Nat) : Int) from rfl]
    have h6 : p10 (-((324 : Nat) : Int)) * (TT : Rat) ≤ num false b * (TT : Rat) := by
      rw [hU]
      have := Rat.mul_le_mul_of_nonneg_left h4 (Rat.le_of_lt h5)
      rw [h3] at this
      grind
    exact le_of_mul hT h6
  have hhi : num false b < p10 309 := by
    have h4 : ((2 ^ 2098 : Nat) : Rat) ≤ ((10 ^ 309 : Nat) : Rat) * (TT : Rat) := by
      have : 2 ^ 2098 ≤ 10 ^ 309 * TT := by decide +kernel
      rw [← Rat.natCast_mul]
      exact_mod_cast this
    have h6 : num false b * (TT : Rat) < p10 309 * (TT : Rat) := by
      rw [hU, show (309 : Int) = ((309 : Nat) : Int) from rfl, p10_nat]
      grind
    exact (Rat.mul_lt_mul_right hT).1 h6
  have search : ∀ n : Nat, ∀ e : Int, e + n = 309 → -324 ≤ e → p10 e ≤ num false b → ∃ top : Int, -324 ≤ top ∧ top ≤ 308 ∧ p10 top ≤ num false b ∧ num false b < p10 (top + 1) := by
    intro n
    induction n with
    | zero =>
      intro e he _ hp
      rw [show e = 309 by omega] at hp
      exact absurd hhi (Rat.not_lt.2 hp)
    | succ n ih =>
      intro e he hle hp
      by_cases h : p10 (e + 1) ≤ num false b
      · exact ih (e + 1) (by omega) (by omega) h
      · exact ⟨e, hle, by omega, hp, Rat.not_le.1 h⟩
  exact search 633 (-324) (by omega) (by omega) hlo

/-- A float's number stands at one power of ten alone. -/
theorem top_of {r : Rat} {top e : Int} (h1 : p10 top ≤ r) (h2 : r < p10 (top + 1)) : p10 e ≤ r ↔ e ≤ top := by
  constructor
  · intro h
    rcases Int.lt_or_le top e with h' | h'
    · have := p10_le (show top + 1 ≤ e by omega)
      grind
    · exact h'
  · intro h
    have := p10_le h
    grind

/-! ### The digits that are taken -/
open Classical in
/-- The float nearest to w, w not below 0. -/
noncomputable def nrw (w : Rat) : Nat := if h : ∃ c, Rds w c then Classical.choose h else 0
theorem nrw_eq {w : Rat} {c : Nat} (h : Rds w c) : nrw w = c := by
  unfold nrw
  have hx : ∃ c, Rds w c := ⟨c, h⟩
  rw [dif_pos hx]
  exact (Classical.choose_spec hx).unique h

end Go.FK


/- Short: texts of floats, walked; the digits that are taken. -/
namespace Go.FK
open Flt
set_option exponentiation.threshold 20000

/-! ### Numerals -/
theorem dd_small {u : Nat} (h : u < 10) : dd u = [48 + (u : Int)] := by
  unfold dd
  by_cases h0 : u = 0
  · subst h0; rfl
  · rw [if_neg h0, dg_pos h0, chr_eq _ (Nat.mod_lt _ (by omega)), show u / 10 = 0 by omega, dg_zero, show u % 10 = u by omega]
    rfl
theorem dd_big {u : Nat} (h : 10 ≤ u) : dd u = dd (u / 10) ++ [48 + ((u % 10 : Nat) : Int)] := by
  unfold dd
  rw [if_neg (by omega), if_neg (by omega), dg_pos (by omega), List.reverse_cons, chr_eq _ (Nat.mod_lt _ (by omega))]
theorem dec_dd : ∀ u : Nat, (Go.Lib.decDigits u).map (fun b => (b.toNat : Int)) = dd u := by
  intro u
  induction u using Nat.strongRecOn with
  | _ u ih =>
    rw [Go.Lib.decDigits]
    by_cases h : u < 10
    · rw [dif_pos h, dd_small h]
      simp only [List.map_cons, List.map_nil, UInt8.toNat_ofNat']
      congr 1
      have : (48 + u) % 2 ^ 8 = 48 + u := Nat.mod_eq_of_lt (by omega)
      rw [this]; omega
    · have e : (((UInt8.ofNat (48 + u % 10)).toNat : Nat) : Int) = 48 + ((u % 10 : Nat) : Int) := by
        rw [UInt8.toNat_ofNat']
        have : (48 + u % 10) % 2 ^ 8 = 48 + u % 10 := Nat.mod_eq_of_lt (by omega)
        rw [this]; omega
      rw [dif_neg h, List.map_append, ih (u / 10) (by omega), dd_big (u := u) (by omega), List.map_cons, List.map_nil, e]
theorem bs_itoa (e : Int) : bs ⟨(Go.Lib.itoa e).toArray⟩ = ed e := by
  unfold bs Go.Lib.itoa ed
  by_cases h : e < 0
  · rw [if_pos h, if_pos h]
    simp only [List.map_cons]
    rw [dec_dd]
    rfl
  · rw [if_neg h, if_neg h]
    simp only
    rw [dec_dd, show e.toNat = e.natAbs by omega]
theorem itoa_ev {e : Int} (h : -9223372036854775808 ≤ e ∧ e ≤ 9223372036854775807) : ∃ t, Ev (fun k => strconv_Itoa.f k e) t ∧ bs t = ed e := by
  refine ⟨_, ?_, bs_itoa e⟩
  unfold strconv_Itoa.f
  exact Ev.tru (by simp; omega) Ev.pure

theorem dd_len10 {n t : Nat} (h : n < 10 ^ t) (ht : 0 < t) : (dd n).length ≤ t := by
  unfold dd
  split
  · simp; omega
  · rw [List.length_reverse]; exact dd_length10 t n h
theorem ed_len {e : Int} (h : e.natAbs ≤ 5000) : (ed e).length ≤ 5 := by
  have := dd_len10 (n := e.natAbs) (t := 4) (by omega) (by omega)
  unfold ed
  split
  · rw [List.length_cons]; omega
  · omega
theorem sci_len (D : List Int) {e : Int} (h : e.natAbs ≤ 5000) : (sci D e).length ≤ D.length + 7 := by
  have := ed_len h
  unfold sci
  rw [List.length_append, List.length_cons]
  split
  · rw [List.length_append, List.length_take, List.length_cons, List.length_drop]; omega
  · omega

/-! ### Noughts at the end -/
theorem strip_snoc (l : List Int) (c : Int) : strip (l ++ [c]) = if c = 48 then strip l else l ++ [c] := by
  unfold strip
  rw [List.reverse_append, List.reverse_singleton, List.singleton_append, List.dropWhile_cons]
  by_cases h : c = 48
  · subst h; simp
  · have : (c == 48) = false := by simpa using h
    rw [if_neg h, this]
    simp
theorem snoc_at {l : List Int} {n : Nat} (h : l.length = n + 1) : l = l.take n ++ [nthD 0 l n] := by
  have h1 := take_succ_get (a := l) (n := n) (by omega)
  rw [← h1, List.take_of_length_le (by omega)]

theorem trimr_byte : ∀ (n : Nat) (s : ByteArray), s.size = n → n ≤ 1073741824 → ∃ t, Ev (fun k => strings_trimRightByte.p0 k s 48) t ∧ bs t = strip (bs s) := by
  intro n
  induction n with
  | zero =>
    intro s hs _
    refine ⟨s, Ev.turn (fun k => strings_trimRightByte.p0_succ k _ _) ?_, ?_⟩
    · unfold strings_trimRightByte.e0
      exact Ev.fls (dec_f (by omega)) (Ev.turn (fun k => strings_trimRightByte.p7_succ k _) Ev.pure)
    · rw [bs_nil hs]; rfl
  | succ n ih =>
    intro s hs hn
    have hl := bs_length s
    have hsn := snoc_at (l := bs s) (n := n) (by omega)
    have w : IntKind.i64.wrap ((s.size : Int) - 1) = ((n : Nat) : Int) := by rw [wrap_i64 (by omega) (by omega)]; omega
    by_cases h : nthD 0 (bs s) n = 48
    · have hsz : (s.extract 0 n).size = n := by rw [ByteArray.size_extract]; omega
      obtain ⟨t, h1, h2⟩ := ih (s.extract 0 n) hsz (by omega)
      refine ⟨t, Ev.turn (fun k => strings_trimRightByte.p0_succ k _ _) ?_, ?_⟩
      · unfold strings_trimRightByte.e0
        rw [w, bs_btI]
        exact Ev.tru (dec_t (by omega)) (Ev.tru (by simp; omega) (Ev.tru (dec_t h) (Ev.tru (by simp; omega) (by simpa using h1))))
      · rw [h2, bs_extract, List.drop_zero]
        conv => rhs; rw [hsn, h, strip_snoc, if_pos rfl]
    · refine ⟨s, Ev.turn (fun k => strings_trimRightByte.p0_succ k _ _) ?_, ?_⟩
      · unfold strings_trimRightByte.e0
        rw [w, bs_btI]
        exact Ev.tru (dec_t (by omega)) (Ev.tru (by simp; omega) (Ev.fls (dec_f h) (Ev.turn (fun k => strings_trimRightByte.p7_succ k _) Ev.pure)))
      · conv => rhs; rw [hsn, strip_snoc, if_neg h]
        exact hsn

theorem trimr_ev (s : ByteArray) (hs : s.size ≤ 1073741824) : ∃ t, Ev (fun k => strings_TrimRight.f k s (ByteArray.mk #[48])) t ∧ bs t = strip (bs s) := by
  have hnil : bs (ByteArray.mk #[]) = [] := rfl
  have h48 : bs (ByteArray.mk #[48]) = [48] := rfl
  have hb0 : btI (ByteArray.mk #[48]) (0 : Int) = 48 := by decide
  have hsz : (ByteArray.mk #[48]).size = 1 := rfl
  by_cases h : bs s = []
  · refine ⟨s, ?_, by rw [h]; rfl⟩
    unfold strings_TrimRight.f strings_TrimRight.e
    rw [beq_bs, hnil]
    exact Ev.tru (dec_t h) (Ev.turn (fun k => strings_TrimRight.p5_succ k _) Ev.pure)
  · obtain ⟨t, h1, h2⟩ := trimr_byte s.size s rfl hs
    refine ⟨t, ?_, h2⟩
    unfold strings_TrimRight.f strings_TrimRight.e
    rw [beq_bs, beq_bs, hnil, h48, hb0, hsz]
    refine Ev.fls (dec_f h) (Ev.fls (by simp) (Ev.tru (by simp) (Ev.tru (by simp) (Ev.tru (by simp) (Ev.tru (by simp) ?_)))))
    refine Ev.bind (?_ : Ev (fun k => strings_trimRightByte.f k s 48) t) Ev.pure
    unfold strings_trimRightByte.f strings_trimRightByte.e
    exact h1

theorem max64 : IntKind.i64.max = 9223372036854775807 := by decide

/-- The program's text of digits. -/
theorem text_ev {s : ByteArray} (hs : s.size ≤ 1000) {e : Int} (he : e.natAbs ≤ 5000) : ∃ t, Ev (fun k => approx_text.f k s e) t ∧ bs t = sci (strip (bs s)) e := by
  obtain ⟨r, h1, h2⟩ := trimr_ev s (by omega)
  obtain ⟨i, h3, h4⟩ := itoa_ev (e := e) (by omega)
  have hl := bs_length r
  have hle := strip_le (bs s)
  rw [← h2, bs_length, bs_length] at hle
  have h101 : bs (ByteArray.mk #[101]) = [101] := rfl
  have h46 : bs (ByteArray.mk #[46]) = [46] := rfl
  have s101 : (ByteArray.mk #[101]).size = 1 := rfl
  have s46 : (ByteArray.mk #[46]).size = 1 := rfl
  have hil : i.size ≤ 5 := by rw [← bs_length, h4]; exact ed_len he
  have p9 : ∀ x : ByteArray, x.size ≤ 2000 → Ev (fun k => approx_text.p9 k x e) ((x ++ ByteArray.mk #[101]) ++ i) := by
    intro x hx
    refine Ev.turn (fun k => approx_text.p9_succ k _ _) ?_
    unfold approx_text.e9
    have hsz : (x ++ ByteArray.mk #[101]).size = x.size + 1 := by rw [← bs_length, bs_append, List.length_append, bs_length, h101]; rfl
    refine Ev.fls (dec_f (by rw [max64, s101]; omega)) (Ev.bind h3 (Ev.fls (dec_f (by rw [max64, hsz]; omega)) Ev.pure))
  unfold approx_text.f approx_text.e
  rw [← h2]
  by_cases h : 1 < r.size
  · have hx : (r.extract (Int.toNat (0 : Int)) (Int.toNat (1 : Int))).size = 1 := by rw [ByteArray.size_extract]; simp; omega
    have hxb : bs (r.extract (Int.toNat (0 : Int)) (Int.toNat (1 : Int))) = (bs r).take 1 := by rw [bs_extract]; simp
    have hy : (r.extract (Int.toNat (1 : Int)) (Int.toNat (r.size : Int))).size = r.size - 1 := by rw [ByteArray.size_extract]; simp
    have hyb : bs (r.extract (Int.toNat (1 : Int)) (Int.toNat (r.size : Int))) = (bs r).drop 1 := by rw [bs_extract, Int.toNat_natCast, ← hl, List.take_length]; rfl
    have hxs : (r.extract (Int.toNat (0 : Int)) (Int.toNat (1 : Int)) ++ ByteArray.mk #[46]).size = 2 := by rw [← bs_length, bs_append, List.length_append, bs_length, hx, h46]; rfl
    refine ⟨_, Ev.bind h1 (Ev.tru (dec_t (by omega)) (Ev.tru (by simp; omega) (Ev.fls (dec_f (by rw [max64, hx, s46]; omega)) (Ev.tru (by simp; omega) (Ev.fls (dec_f (by rw [max64, hxs, hy]; omega)) (p9 _ ?_)))))), ?_⟩
    · rw [← bs_length, bs_append, List.length_append, bs_length, bs_length, hxs, hy]; omega
    · unfold sci
      rw [if_pos (by omega), bs_append, bs_append, bs_append, bs_append, hxb, hyb, h46, h101, h4]
      simp
  · refine ⟨_, Ev.bind h1 (Ev.fls (dec_f (by omega)) (p9 r (by omega))), ?_⟩
    unfold sci
    rw [if_neg (by omega), bs_append, bs_append, h101, h4]
    simp

/-! ### Reading such a text -/
theorem Rds.of_pl {w : Rat} {k : Nat} {a : Int} (h : Pl w k a) : Rds w (nr k a) := ⟨k, a, h, rfl⟩

/-- A text of a number's digits is read as the float nearest to it. -/
theorem read_sci {m : Nat} (hm : 0 < m) (hm2 : m < 10 ^ 30) {t : Int} (ht : (t + ((dd m).length : Int) - 1).natAbs ≤ 5000) {s : ByteArray} (hb : bs s = sci (strip (dd m)) (t + ((dd m).length : Int) - 1)) :
    ∃ c, Rds (dv m t) c ∧ Ev (fun f => approx_Read.f f s) (c, (0 : Int)) := by
  obtain ⟨d, e, h1, h2, h3, h4⟩ := dspec_number hm ht
  rw [← hb] at h1 h3 h4
  have hdl := dd_len10 hm2 (by omega)
  have hsl := strip_le (dd m)
  have hsz : s.size ≤ 40 := by
    rw [← bs_length, hb]
    have := sci_len (strip (dd m)) ht
    omega
  rw [← h4] at h1
  have hds := dspec_some h1
  have hbl := dbody_len (bs s)
  rw [bs_length] at hbl
  obtain ⟨k, a, hp⟩ := pl_of d (e := e) (by omega) (by omega)
  have hr := aread_ev (s := s) (by omega) h1 hp
  rw [h3] at hr
  rw [h2] at hp
  refine ⟨nr k a, Rds.of_pl hp, ?_⟩
  have e1 : rdB false (dv d e) k a = nr k a := by
    unfold rdB nrB fb
    rw [if_neg (by simp), dec_f (dv_nonneg d e), if_neg (by simp)]
  rw [e1] at hr
  exact hr

/-! ### The digits that are taken -/
theorem qfl_le (q : Rat) : (qfloor q : Rat) ≤ q := by
  have : qfloor q = q.floor := (Rat.floor_def q).symm
  rw [this]; exact Rat.floor_le q
theorem lt_qfl (q : Rat) : q < (qfloor q : Rat) + 1 := by
  have h : qfloor q = q.floor := (Rat.floor_def q).symm
  rw [h]
  have := Rat.lt_floor_add_one q
  rwa [Rat.intCast_add] at this
theorem qfl_nonneg {q : Rat} (h : 0 ≤ q) : 0 ≤ qfloor q := by
  have e : qfloor q = q.floor := (Rat.floor_def q).symm
  rw [e]
  exact Rat.le_floor_iff.2 (by simpa using h)

/-- The next whole number of units below a number. -/
def lod (r : Rat) (t : Int) : Nat := (qfloor (r * (p10 t)⁻¹)).toNat

theorem lod_cast {r : Rat} (hr : 0 ≤ r) (t : Int) : ((lod r t : Nat) : Int) = qfloor (r * (p10 t)⁻¹) := by
  have h1 := Rat.le_of_lt (Rat.inv_pos.2 (p10_pos t))
  have := qfl_nonneg (Rat.mul_nonneg hr h1)
  unfold lod
  omega

theorem lod_spec {r : Rat} (hr : 0 ≤ r) (t : Int) : dv (lod r t) t ≤ r ∧ r < dv (lod r t + 1) t := by
  have hp := p10_pos t
  have hne : p10 t ≠ 0 := fun h => by rw [h] at hp; exact absurd hp Rat.lt_irrefl
  have h1 := qfl_le (r * (p10 t)⁻¹)
  have h2 := lt_qfl (r * (p10 t)⁻¹)
  rw [← lod_cast hr t, Rat.intCast_natCast] at h1 h2
  have e : r * (p10 t)⁻¹ * p10 t = r := by rw [Rat.mul_assoc, Rat.inv_mul_cancel _ hne, Rat.mul_one]
  unfold dv
  constructor
  · have := Rat.mul_le_mul_of_nonneg_right h1 (Rat.le_of_lt hp)
    rwa [e] at this
  · have := (Rat.mul_lt_mul_right hp).2 h2
    rw [e] at this
    rw [Rat.natCast_add]
    exact this

theorem dv_lt_iff {m n : Nat} {t : Int} : dv m t < dv n t ↔ m < n := by
  unfold dv
  rw [Rat.mul_lt_mul_right (p10_pos t)]
  exact Rat.natCast_lt_natCast
theorem dv_pow (n : Nat) (t : Int) : dv (10 ^ n) t = p10 (t + n) := by
  unfold dv
  rw [p10_add_nat, Rat.mul_comm]

/-- Of n digits. -/
theorem lod_digits {r : Rat} (hr : 0 ≤ r) {top : Int} (h1 : p10 top ≤ r) (h2 : r < p10 (top + 1)) {n : Nat} (hn : 1 ≤ n) : 10 ^ (n - 1) ≤ lod r (top - n + 1) ∧ lod r (top - n + 1) < 10 ^ n := by
  obtain ⟨g1, g2⟩ := lod_spec hr (top - n + 1)
  have e1 := dv_pow (n - 1) (top - n + 1)
  rw [show top - n + 1 + ((n - 1 : Nat) : Int) = top by omega] at e1
  have e2 := dv_pow n (top - n + 1)
  rw [show top - n + 1 + (n : Int) = top + 1 by omega] at e2
  constructor
  · have : dv (10 ^ (n - 1)) (top - n + 1) < dv (lod r (top - n + 1) + 1) (top - n + 1) := by rw [e1]; grind
    have := dv_lt_iff.1 this
    omega
  · have : dv (lod r (top - n + 1)) (top - n + 1) < dv (10 ^ n) (top - n + 1) := by rw [e2]; grind
    exact dv_lt_iff.1 this

open Classical in
/-- Which number of units is taken, if any. -/
noncomputable def pick (b : Nat) (r : Rat) (t : Int) : Option Nat :=
  if nrw (dv (lod r t) t) = b then
    if nrw (dv (lod r t + 1) t) = b then
      (if 2 * r < dv (2 * lod r t + 1) t ∨ (2 * r = dv (2 * lod r t + 1) t ∧ lod r t % 2 = 0) then some (lod r t) else some (lod r t + 1))
    else some (lod r t)
  else if nrw (dv (lod r t + 1) t) = b then some (lod r t + 1) else none

theorem pick_spec {b : Nat} {r : Rat} {t : Int} {m : Nat} (h : pick b r t = some m) : nrw (dv m t) = b ∧ (m = lod r t ∨ m = lod r t + 1) := by
  unfold pick at h
  split at h
  · rename_i h1
    split at h
    · rename_i h2
      split at h
      · cases h; exact ⟨h1, .inl rfl⟩
      · cases h; exact ⟨h2, .inr rfl⟩
    · cases h; exact ⟨h1, .inl rfl⟩
  · split at h
    · rename_i h2; cases h; exact ⟨h2, .inr rfl⟩
    · cases h
theorem pick_none {b : Nat} {r : Rat} {t : Int} (h : pick b r t = none) : nrw (dv (lod r t) t) ≠ b ∧ nrw (dv (lod r t + 1) t) ≠ b := by
  unfold pick at h
  split at h
  · split at h
    · split at h <;> cases h
    · cases h
  · rename_i h1
    split at h
    · cases h
    · rename_i h2; exact ⟨h1, h2⟩

/-- Seventeen digits are enough. -/
theorem pick17 {b : Nat} (hb0 : 0 < b) (hb : b ≤ 9218868437227405311) {top : Int} (h1 : p10 top ≤ num false b) : pick b (num false b) (top - 16) ≠ none := by
  intro h
  obtain ⟨n1, n2⟩ := pick_none h
  have hr0 := Rat.le_of_lt (num_pos hb0)
  obtain ⟨g1, g2⟩ := lod_spec hr0 (top - 16)
  have hs : dv (lod (num false b) (top - 16) + 1) (top - 16) = dv (lod (num false b) (top - 16)) (top - 16) + p10 (top - 16) := by
    unfold dv
    rw [Rat.natCast_add, Rat.add_mul]
    congr 1
    exact Rat.one_mul _
  have hp := p10_pos (top - 16)
  by_cases hc : (num false b - dv (lod (num false b) (top - 16)) (top - 16)) * 2 ≤ p10 (top - 16)
  · exact n1 (nrw_eq (near17 hb0 hb h1 (dv_nonneg _ _) (by grind) hc))
  · exact n2 (nrw_eq (near17 hb0 hb h1 (dv_nonneg _ _) (by grind) (by grind)))

end Go.FK


/- Short: the program's search. -/
namespace Go.FK
open Flt
set_option exponentiation.threshold 20000

theorem nbit_ev {M n : Nat} (_hM : M ≤ 35184372088832) (h : FK.L n ≤ M) : Ev (fun k => nat_Bit.f k (lim n) 0) (decide (n % 2 = 1)) := by
  have ha : Nt M (lim n) n := Nt.of h
  unfold nat_Bit.f nat_Bit.e
  have e1 : IntKind.i64.wrap (Int.tdiv 0 32) = 0 := by decide
  simp only [e1]
  refine Ev.fls (by simp) ?_
  by_cases h0 : n = 0
  · subst h0
    rw [lim_zero]
    refine Ev.tru (by simp) (Ev.turn (fun k => nat_Bit.p5_succ k _) ?_)
    exact Ev.pure
  · have hp := L_pos h0
    unfold FK.L at hp
    refine Ev.fls (dec_f (by omega)) (Ev.tru (by simp <;> omega) (Ev.fls (by decide) (Ev.eq ?_)))
    have hg := ha.get 0
    have e3 : Int.fdiv (nthD 0 (lim n) 0) (2 ^ min (Int.toNat (Int.tmod 0 32)) 32) = ((n % 4294967296 : Nat) : Int) := by
      rw [hg]
      have : (2 : Int) ^ min (Int.toNat (Int.tmod 0 32)) 32 = 1 := by decide
      rw [this]
      simp
    show decide (bitsI .and .u32 (Int.fdiv (nthD 0 (lim n) 0) (2 ^ min (Int.toNat (Int.tmod 0 32)) 32)) 1 = 1) = _
    rw [e3, bits_and32 (by omega) (by omega)]
    apply decide_eq_decide.2
    have : ((n % 4294967296 : Nat) : Int).toNat &&& (1 : Int).toNat = n % 4294967296 % 2 := by
      rw [Int.toNat_natCast]
      exact Nat.and_one_is_mod _
    rw [this]
    omega

theorem qs_le_iff {p q : Rat} : qs p q ≤ 0 ↔ p ≤ q := by
  have h1 := qs_neg (p := p) (q := q)
  have h2 := qs_zero (p := p) (q := q)
  constructor
  · intro h
    rcases Int.lt_or_eq_of_le h with h | h
    · exact Rat.le_of_lt (h1.1 h)
    · rw [h2.1 h]; exact Rat.le_refl
  · intro h
    rcases (show p < q ∨ p = q by grind) with h | h
    · exact Int.le_of_lt (h1.2 h)
    · exact Int.le_of_eq (h2.2 h)

/-! ### The power of ten -/
theorem power10_ev {r : RR} {q : Rat} (hr : Rt 1000 r q) {top : Int} (h0 : -324 ≤ top) (h3 : top ≤ 308) (h1 : p10 top ≤ q) (h2 : q < p10 (top + 1)) : Ev (fun k => approx_power.f k r) top := by
  have loop : ∀ n : Nat, ∀ e : Int, e + n = top → -324 ≤ e → Ev (fun k => approx_power.p0 k r e) top := by
    intro n
    induction n with
    | zero =>
      intro e he hle
      have e0 : e = top := by omega
      subst e0
      refine Ev.turn (fun k => approx_power.p0_succ k _ _) ?_
      unfold approx_power.e0
      rw [wrap_i64 (by omega) (by omega)]
      have hL := LQ_p10 (n := e + 1) (N := 400) (by omega)
      have hc := (Rt.of (M := 1000) (q := p10 (e + 1)) (by omega)).cmp hr (by omega) (by omega)
      refine Ev.bind (aten_ev _ (by omega)) (Ev.bind hc (Ev.fls (dec_f ?_) Ev.pure))
      rw [qs_le_iff]
      exact Rat.not_le.2 h2
    | succ n ih =>
      intro e he hle
      refine Ev.turn (fun k => approx_power.p0_succ k _ _) ?_
      unfold approx_power.e0
      rw [wrap_i64 (by omega) (by omega)]
      have hL := LQ_p10 (n := e + 1) (N := 400) (by omega)
      have hc := (Rt.of (M := 1000) (q := p10 (e + 1)) (by omega)).cmp hr (by omega) (by omega)
      refine Ev.bind (aten_ev _ (by omega)) (Ev.bind hc (Ev.tru (dec_t ?_) (ih (e + 1) (by omega) (by omega))))
      rw [qs_le_iff]
      exact (top_of h1 h2).2 (by omega)
  unfold approx_power.f approx_power.e
  exact loop (top + 324).toNat (-324) (by omega) (by omega)

/-! ### Of so many digits -/
def Txt (m : Nat) (t : Int) (s : ByteArray) : Prop := bs s = sci (strip (dd m)) (t + ((dd m).length : Int) - 1)

theorem feq_pos {c b : Nat} (hc : c ≤ 9218868437227405312) (hb : b ≤ 9218868437227405312) : fEq c b = decide (c = b) := by
  have h1 := isN_fb (s := false) hc
  have h2 := isN_fb (s := false) hb
  have e1 : fb false c = c := by unfold fb; simp
  have e2 : fb false b = b := by unfold fb; simp
  rw [e1] at h1
  rw [e2] at h2
  rw [fEq_eq h1 h2]
  have r1 := R_fb (s := false) (k := c) (by omega)
  have r2 := R_fb (s := false) (k := b) (by omega)
  rw [e1] at r1
  rw [e2] at r2
  rw [r1, r2]
  apply decide_eq_decide.2
  simp only [Bool.false_eq_true, if_false]
  omega

theorem Rds.le {w : Rat} {c : Nat} (h : Rds w c) : c ≤ 9218868437227405312 := by
  obtain ⟨k, a, h1, rfl⟩ := h
  have := h1.le
  have := nr_le (k := k) (a := a)
  omega

theorem abs_pos' {x : Rat} (h : 0 ≤ x) : x.abs = x := Rat.abs_of_nonneg h

theorem shortest_ev {b : Nat} (hb : b ≤ 9218868437227405311) {r : RR} {q : Rat} (hr : Rt 1000 r q) (hq : 0 < q) {top : Int} (h0 : -324 ≤ top) (h3 : top ≤ 308) (h1 : p10 top ≤ q) (h2 : q < p10 (top + 1)) {n : Nat} (hn1 : 1 ≤ n) (hn : n ≤ 17) :
    ∃ s ok, Ev (fun k => approx_shortest.f k b r top (n : Int)) (s, ok) ∧ match pick b q (top - n + 1) with
      | none => ok = false
      | some m => ok = true ∧ Txt m (top - n + 1) s := by
  obtain ⟨t, ht⟩ : ∃ t, top - (n : Int) + 1 = t := ⟨_, rfl⟩
  have hq0 := Rat.le_of_lt hq
  obtain ⟨d1, d2⟩ := lod_digits hq0 h1 h2 hn1
  obtain ⟨g1, g2⟩ := lod_spec hq0 (top - n + 1)
  have hcast := lod_cast hq0 (top - n + 1)
  rw [ht] at d1 d2 g1 g2 hcast ⊢
  have hp := p10_pos t
  have hpne : p10 t ≠ 0 := fun h => by rw [h] at hp; exact absurd hp Rat.lt_irrefl
  have hLp := LQ_p10 (n := t) (N := 400) (by omega)
  have hdiv := (hr.mono (M' := 2000) (by omega)).div (Rt.of (M := 2000) (q := p10 t) (by omega)) (by omega) (by omega) hpne
  have hLq := hr.LQ (by omega)
  have hLi := LQ_inv (p10 t)
  have hLx := LQ_mul q (p10 t)⁻¹
  have hxp : q * (p10 t)⁻¹ * p10 t = q := by rw [Rat.mul_assoc, Rat.inv_mul_cancel _ hpne, Rat.mul_one]
  generalize hX : q * (p10 t)⁻¹ = X at *
  have hrx : Rt 4000 (rat X) X := Rt.of (by omega)
  have hfl := hrx.floor (by omega) (by omega)
  rw [← hcast] at hfl
  have hpow : 10 ^ n ≤ 10 ^ 17 := Nat.pow_le_pow_right (by omega) hn
  have hpow1 : 1 ≤ 10 ^ (n - 1) := Nat.pow_pos (by omega)
  have hx1 : ((lod q t : Nat) : Rat) ≤ X ∧ X < ((lod q t : Nat) : Rat) + 1 := by
    unfold dv at g1 g2
    constructor
    · refine le_of_mul hp ?_
      rw [hxp]; exact g1
    · have : X * p10 t < (((lod q t : Nat) : Rat) + 1) * p10 t := by
        rw [hxp]
        rw [Rat.natCast_add] at g2
        exact g2
      exact (Rat.mul_lt_mul_right hp).1 this
  generalize hlo : lod q t = lo at *
  have hL1 : ∀ m : Nat, m ≤ 10 ^ 17 → FK.L m ≤ 2 := fun m hm => L_le (by omega)
  -- one of the two
  have one : ∀ m : Nat, 1 ≤ m → m ≤ 10 ^ 17 → ∃ s c, Rds (dv m t) c ∧ Txt m t s ∧ Ev (fun k => whole_Text.f k (int (m : Int))) (wtxt (m : Int)) ∧ Ev (fun k => approx_text.f k (wtxt (m : Int)) (IntKind.i64.wrap ((IntKind.i64.wrap (top + ((wtxt (m : Int)).size : Int))) - (n : Int)))) s ∧ Ev (fun k => approx_Read.f k s) (c, (0 : Int)) := by
    intro m hm1 hm
    have hw : wtxt (m : Int) = txt m := by unfold wtxt; rw [if_neg (by omega)]; rfl
    have hdl := dd_len10 (n := m) (t := 18) (by omega) (by omega)
    have hsz : (txt m).size = (dd m).length := by rw [← bs_length, bs_txt]
    have hw2 : IntKind.i64.wrap ((IntKind.i64.wrap (top + ((wtxt (m : Int)).size : Int))) - (n : Int)) = t + ((dd m).length : Int) - 1 := by
      rw [hw, hsz, wrap_i64 (n := top + ((dd m).length : Int)) (by omega) (by omega), wrap_i64 (by omega) (by omega)]; omega
    obtain ⟨s, e1, e2⟩ := text_ev (s := txt m) (by omega) (e := t + ((dd m).length : Int) - 1) (by omega)
    rw [bs_txt] at e2
    obtain ⟨c, e3, e4⟩ := read_sci (m := m) (by omega) (by omega) (t := t) (by omega) e2
    have hz : Zt 100 (int (m : Int)) (m : Int) := Zt.of (by unfold LZ; rw [Int.natAbs_natCast]; have := hL1 m hm; omega)
    refine ⟨s, c, e3, e2, hz.text (by omega), ?_, e4⟩
    rw [hw2, hw]
    exact e1
  obtain ⟨s0, c0, a1, a2, a3, a4, a5⟩ := one lo (by omega) (by omega)
  obtain ⟨s1, c1, b1, b2, b3, b4, b5⟩ := one (lo + 1) (by omega) (by omega)
  have hn0 := nrw_eq a1
  have hn1' := nrw_eq b1
  have f0 := feq_pos a1.le (show b ≤ 9218868437227405312 by omega)
  have f1 := feq_pos b1.le (show b ≤ 9218868437227405312 by omega)
  -- how far
  have far : ∀ m : Nat, m ≤ 10 ^ 17 → ∃ u, Ev (fun k => ratio_Of.f k (int (m : Int)) (int 1)) (rat ((m : Nat) : Rat), (0 : Int)) ∧ Ev (fun k => ratio_Sub.f k (rat ((m : Nat) : Rat)) (rat X)) (rat (((m : Nat) : Rat) - X)) ∧ Ev (fun k => ratio_Abs.f k (rat (((m : Nat) : Rat) - X))) u ∧ Rt 20000 u (((m : Nat) : Rat) - X).abs ∧ u = rat (((m : Nat) : Rat) - X).abs := by
    intro m hm
    have hz : Zt 100 (int (m : Int)) (m : Int) := Zt.of (by unfold LZ; rw [Int.natAbs_natCast]; have := hL1 m hm; omega)
    have hone : Zt 100 (int 1) 1 := (Zt.of (Nat.le_refl _)).mono (by rw [show LZ 1 = 1 from L_one]; omega)
    have hof := hz.of_ev hone (by omega) (by omega)
    rw [divInt_one, Rat.intCast_natCast] at hof
    have hLm := LQ_natR m
    have hLm2 := hL1 m hm
    have hs := (Rt.of (M := 4000) (q := ((m : Nat) : Rat)) (by omega)).sub hrx (by omega) (by omega)
    have hLs := LQ_sub ((m : Nat) : Rat) X
    have ha := (Rt.of (M := 9000) (q := ((m : Nat) : Rat) - X) (by omega)).abs (by omega) (by omega)
    exact ⟨_, hof, hs, ha, Rt.of (by rw [LQ_abs]; omega), rfl⟩
  obtain ⟨u0, k1, k2, k3, k4, k5⟩ := far lo (by omega)
  obtain ⟨u1, l1, l2, l3, l4, l5⟩ := far (lo + 1) (by omega)
  have h1e : Ev (fun k => whole_Of.f k (1 : Int)) (int 1) := whole_Of_ev (by omega)
  have efar0 : (((lo : Nat) : Rat) - X).abs = X - ((lo : Nat) : Rat) := by
    rw [show ((lo : Nat) : Rat) - X = -(X - ((lo : Nat) : Rat)) by grind, Rat.abs_neg, abs_pos' (by grind)]
  have efar1 : (((lo + 1 : Nat) : Rat) - X).abs = ((lo : Nat) : Rat) + 1 - X := by
    rw [Rat.natCast_add, show ((1 : Nat) : Rat) = 1 from rfl, abs_pos' (by grind)]
  -- the half way
  have hhalf : ((2 * q < dv (2 * lo + 1) t) ↔ 2 * X < 2 * ((lo : Nat) : Rat) + 1) ∧ ((2 * q = dv (2 * lo + 1) t) ↔ 2 * X = 2 * ((lo : Nat) : Rat) + 1) := by
    have e1 : dv (2 * lo + 1) t = (2 * ((lo : Nat) : Rat) + 1) * p10 t := by
      unfold dv
      rw [Rat.natCast_add, Rat.natCast_mul]
      rfl
    have e2 : 2 * q = 2 * X * p10 t := by rw [Rat.mul_assoc, hxp]
    rw [e1, e2]
    refine ⟨Rat.mul_lt_mul_right hp, ⟨fun h => ?_, fun h => by rw [h]⟩⟩
    have := congrArg (· * (p10 t)⁻¹) h
    simpa only [Rat.mul_assoc, Rat.mul_inv_cancel _ hpne, Rat.mul_one] using this
  -- the end
  have fin : ∀ (o : RR) (s : ByteArray) (ok : Bool), Ev (fun k => approx_shortest.p0 k (rat X) o b top (n : Int) s ok (int (lo : Int), int ((lo + 1 : Nat) : Int)) 2) (s, ok) := fun o s ok => by
    refine Ev.turn (fun k => approx_shortest.p0_succ k _ _ _ _ _ _ _ _ _) ?_
    unfold approx_shortest.e0
    exact Ev.fls (by simp) Ev.pure
  have p35b : ∀ (o : RR) (s : ByteArray) (ok : Bool), Ev (fun k => approx_shortest.p35 k (rat X) o b top (n : Int) s ok (int (lo : Int), int ((lo + 1 : Nat) : Int)) 1) (s, ok) := fun o s ok => by
    refine Ev.turn (fun k => approx_shortest.p35_succ k _ _ _ _ _ _ _ _ _) ?_
    unfold approx_shortest.e35
    rw [show IntKind.i64.wrap ((1 : Int) + 1) = 2 by decide]
    exact fin o s ok
  have p33b : ∀ (o o' : RR) (s : ByteArray), Ev (fun k => approx_shortest.p33 k (rat X) o o' b top (n : Int) s (int (lo : Int), int ((lo + 1 : Nat) : Int)) 1) (s, true) := fun o o' s => by
    refine Ev.turn (fun k => approx_shortest.p33_succ k _ _ _ _ _ _ _ _ _) ?_
    unfold approx_shortest.e33
    exact p35b o' s true
  have second : ∀ (o : RR) (fo : Rat) (s : ByteArray) (ok : Bool), Rt 20000 o fo → ∃ s' ok', Ev (fun k => approx_shortest.p0 k (rat X) o b top (n : Int) s ok (int (lo : Int), int ((lo + 1 : Nat) : Int)) 1) (s', ok') ∧
      (c1 ≠ b → s' = s ∧ ok' = ok) ∧ (c1 = b → ok' = true ∧ ((ok = false ∨ (((lo + 1 : Nat) : Rat) - X).abs < fo ∨ ((((lo + 1 : Nat) : Rat) - X).abs = fo ∧ (lo + 1) % 2 = 0)) → s' = s1) ∧ (¬ (ok = false ∨ (((lo + 1 : Nat) : Rat) - X).abs < fo ∨ ((((lo + 1 : Nat) : Rat) - X).abs = fo ∧ (lo + 1) % 2 = 0)) → s' = s)) := by
    intro o fo s ok ho
    have hcm := l4.cmp ho (by omega) (by omega)
    have hcd := qs_neg (p := (((lo + 1 : Nat) : Rat) - X).abs) (q := fo)
    have hce := qs_zero (p := (((lo + 1 : Nat) : Rat) - X).abs) (q := fo)
    have pre : ∀ {z : ByteArray × Bool}, Ev (fun k => approx_shortest.p17 k (rat X) o (int ((lo + 1 : Nat) : Int)) b top (n : Int) s ok (int (lo : Int), int ((lo + 1 : Nat) : Int)) 1) z → Ev (fun k => approx_shortest.p0 k (rat X) o b top (n : Int) s ok (int (lo : Int), int ((lo + 1 : Nat) : Int)) 1) z := fun h => by
      refine Ev.turn (fun k => approx_shortest.p0_succ k _ _ _ _ _ _ _ _ _) ?_
      unfold approx_shortest.e0
      exact Ev.tru (by simp) (Ev.fls (by simp) (Ev.tru (by simp) h))
    by_cases hc : c1 = b
    · have pre2 : ∀ {z : ByteArray × Bool}, Ev (fun k => (bif (!ok) then approx_shortest.p33 k (rat X) o u1 b top (n : Int) s1 (int (lo : Int), int ((lo + 1 : Nat) : Int)) 1 else
          (bif (decide (qs (((lo + 1 : Nat) : Rat) - X).abs fo < (0 : Int))) then approx_shortest.p33 k (rat X) o u1 b top (n : Int) s1 (int (lo : Int), int ((lo + 1 : Nat) : Int)) 1 else
            (bif (decide (qs (((lo + 1 : Nat) : Rat) - X).abs fo = (0 : Int))) then
              (Option.bind (nat_Bit.f k (int ((lo + 1 : Nat) : Int)).2 (0 : Int)) fun r14 => (bif (!r14) then approx_shortest.p33 k (rat X) o u1 b top (n : Int) s1 (int (lo : Int), int ((lo + 1 : Nat) : Int)) 1 else approx_shortest.p35 k (rat X) o b top (n : Int) s ok (int (lo : Int), int ((lo + 1 : Nat) : Int)) 1))
             else approx_shortest.p35 k (rat X) o b top (n : Int) s ok (int (lo : Int), int ((lo + 1 : Nat) : Int)) 1)))) z →
          Ev (fun k => approx_shortest.p17 k (rat X) o (int ((lo + 1 : Nat) : Int)) b top (n : Int) s ok (int (lo : Int), int ((lo + 1 : Nat) : Int)) 1) z := fun h => by
        refine Ev.turn (fun k => approx_shortest.p17_succ k _ _ _ _ _ _ _ _ _ _) ?_
        unfold approx_shortest.e17
        exact Ev.bind b3 (Ev.bind b4 (Ev.bind b5 (Ev.fls (by rw [f1, dec_t hc]; rfl) (Ev.bind h1e (Ev.bind l1 (Ev.bind l2 (Ev.bind l3 (Ev.bind hcm h))))))))
      by_cases hok : ok = false
      · subst hok
        exact ⟨s1, true, pre (pre2 (Ev.tru rfl (p33b o u1 s1))), fun h => absurd hc h, fun _ => ⟨rfl, fun _ => rfl, fun h => absurd (.inl rfl) h⟩⟩
      · have hok' : ok = true := by simpa using hok
        subst hok'
        by_cases hlt : (((lo + 1 : Nat) : Rat) - X).abs < fo
        · exact ⟨s1, true, pre (pre2 (Ev.fls rfl (Ev.tru (dec_t (hcd.2 hlt)) (p33b o u1 s1)))), fun h => absurd hc h, fun _ => ⟨rfl, fun _ => rfl, fun h => absurd (.inr (.inl hlt)) h⟩⟩
        · by_cases heq : (((lo + 1 : Nat) : Rat) - X).abs = fo
          · have hbit := nbit_ev (M := 10) (n := lo + 1) (by omega) (by have := hL1 (lo + 1) (by omega); omega)
            have hi2 : (int ((lo + 1 : Nat) : Int)).2 = lim (lo + 1) := by unfold int; simp only [Int.natAbs_natCast]
            rw [← hi2] at hbit
            by_cases hev : (lo + 1) % 2 = 0
            · exact ⟨s1, true, pre (pre2 (Ev.fls rfl (Ev.fls (dec_f (fun h => hlt (hcd.1 h))) (Ev.tru (dec_t (hce.2 heq)) (Ev.bind hbit (Ev.tru (by rw [dec_f (by omega)]; rfl) (p33b o u1 s1))))))), fun h => absurd hc h, fun _ => ⟨rfl, fun _ => rfl, fun h => absurd (.inr (.inr ⟨heq, hev⟩)) h⟩⟩
            · exact ⟨s, true, pre (pre2 (Ev.fls rfl (Ev.fls (dec_f (fun h => hlt (hcd.1 h))) (Ev.tru (dec_t (hce.2 heq)) (Ev.bind hbit (Ev.fls (by rw [dec_t (by omega)]; rfl) (p35b o s true))))))), fun h => absurd hc h, fun _ => ⟨rfl, fun h => (h.elim (fun h => by cases h) fun h => h.elim (fun h => absurd h hlt) fun h => absurd h.2 hev), fun _ => rfl⟩⟩
          · exact ⟨s, true, pre (pre2 (Ev.fls rfl (Ev.fls (dec_f (fun h => hlt (hcd.1 h))) (Ev.fls (dec_f (fun h => heq (hce.1 h))) (p35b o s true))))), fun h => absurd hc h, fun _ => ⟨rfl, fun h => (h.elim (fun h => by cases h) fun h => h.elim (fun h => absurd h hlt) fun h => absurd h.1 heq), fun _ => rfl⟩⟩
    · refine ⟨s, ok, pre (Ev.turn (fun k => approx_shortest.p17_succ k _ _ _ _ _ _ _ _ _ _) ?_), fun _ => ⟨rfl, rfl⟩, fun h => absurd h hc⟩
      unfold approx_shortest.e17
      exact Ev.bind b3 (Ev.bind b4 (Ev.bind b5 (Ev.tru (by rw [f1, dec_f hc]; rfl) (p35b o s ok))))
  -- the first
  have p35a : ∀ (o : RR) (s : ByteArray) (ok : Bool) {z : ByteArray × Bool}, Ev (fun k => approx_shortest.p0 k (rat X) o b top (n : Int) s ok (int (lo : Int), int ((lo + 1 : Nat) : Int)) 1) z → Ev (fun k => approx_shortest.p35 k (rat X) o b top (n : Int) s ok (int (lo : Int), int ((lo + 1 : Nat) : Int)) 0) z := fun o s ok z h => by
    refine Ev.turn (fun k => approx_shortest.p35_succ k _ _ _ _ _ _ _ _ _) ?_
    unfold approx_shortest.e35
    rw [show IntKind.i64.wrap ((0 : Int) + 1) = 1 by decide]
    exact h
  have hadd : Ev (fun k => whole_Add.f k (int (lo : Int)) (int 1)) (int ((lo + 1 : Nat) : Int)) := by
    have hz : Zt 100 (int (lo : Int)) (lo : Int) := Zt.of (by unfold LZ; rw [Int.natAbs_natCast]; have := hL1 lo (by omega); omega)
    have hone : Zt 100 (int 1) 1 := (Zt.of (Nat.le_refl _)).mono (by rw [show LZ 1 = 1 from L_one]; omega)
    exact hz.add hone (by omega)
  have start : ∀ {z : ByteArray × Bool}, Ev (fun k => approx_shortest.p17 k (rat X) noRat (int (lo : Int)) b top (n : Int) (ByteArray.mk #[]) false (int (lo : Int), int ((lo + 1 : Nat) : Int)) 0) z → Ev (fun k => approx_shortest.f k b r top (n : Int)) z := fun h => by
    unfold approx_shortest.f approx_shortest.e
    have hw : IntKind.i64.wrap ((IntKind.i64.wrap (top - (n : Int))) + 1) = t := by rw [wrap_i64 (n := top - (n : Int)) (by omega) (by omega), wrap_i64 (by omega) (by omega)]; omega
    rw [hw]
    refine Ev.bind (aten_ev t (by omega)) (Ev.bind hdiv (Ev.bind hfl (Ev.bind h1e (Ev.bind hadd ?_))))
    refine Ev.turn (fun k => approx_shortest.p0_succ k _ _ _ _ _ _ _ _ _) ?_
    unfold approx_shortest.e0
    exact Ev.tru (by simp) (Ev.tru (by simp) h)
  by_cases hc0 : c0 = b
  · -- the lower one is read so
    obtain ⟨s', ok', q1, q2, q3⟩ := second u0 _ s0 true k4
    have hcm := k4.cmp (Rt.zeroR (M := 20000)) (by omega) (by omega)
    refine ⟨s', ok', start (Ev.turn (fun k => approx_shortest.p17_succ k _ _ _ _ _ _ _ _ _ _) ?_), ?_⟩
    · unfold approx_shortest.e17
      refine Ev.bind a3 (Ev.bind a4 (Ev.bind a5 (Ev.fls (by rw [f0, dec_t hc0]; rfl) (Ev.bind h1e (Ev.bind k1 (Ev.bind k2 (Ev.bind k3 (Ev.bind hcm (Ev.tru rfl ?_)))))))))
      refine Ev.turn (fun k => approx_shortest.p33_succ k _ _ _ _ _ _ _ _ _) ?_
      unfold approx_shortest.e33
      exact p35a u0 s0 true q1
    · unfold pick
      rw [hlo, hn0, hn1', if_pos hc0]
      by_cases hc1 : c1 = b
      · rw [if_pos hc1]
        obtain ⟨z1, z2, z3⟩ := q3 hc1
        rw [efar0, efar1] at z2 z3
        by_cases hcase : 2 * q < dv (2 * lo + 1) t ∨ (2 * q = dv (2 * lo + 1) t ∧ lo % 2 = 0)
        · rw [if_pos hcase]
          refine ⟨z1, ?_⟩
          rw [z3]
          · exact a2
          · rw [hhalf.1, hhalf.2] at hcase
            rintro (h | h | ⟨h, h'⟩)
            · cases h
            · rcases hcase with hcase | ⟨hcase, _⟩ <;> grind
            · rcases hcase with hcase | ⟨_, hcase⟩
              · grind
              · omega
        · rw [if_neg hcase]
          refine ⟨z1, ?_⟩
          rw [z2]
          · exact b2
          · rw [hhalf.1, hhalf.2] at hcase
            right
            by_cases hlt : ((lo : Nat) : Rat) + 1 - X < X - ((lo : Nat) : Rat)
            · exact .inl hlt
            · refine .inr ⟨?_, ?_⟩
              · have : ¬ 2 * X < 2 * ((lo : Nat) : Rat) + 1 := fun h => hcase (.inl h)
                grind
              · by_cases he : lo % 2 = 0
                · exfalso
                  have h1 : ¬ 2 * X < 2 * ((lo : Nat) : Rat) + 1 := fun h => hcase (.inl h)
                  exact hcase (.inr ⟨by grind, he⟩)
                · omega
      · rw [if_neg hc1]
        obtain ⟨rfl, rfl⟩ := q2 hc1
        exact ⟨rfl, a2⟩
  · obtain ⟨s', ok', q1, q2, q3⟩ := second noRat 0 (ByteArray.mk #[]) false Rt.zeroR
    refine ⟨s', ok', start (Ev.turn (fun k => approx_shortest.p17_succ k _ _ _ _ _ _ _ _ _ _) ?_), ?_⟩
    · unfold approx_shortest.e17
      exact Ev.bind a3 (Ev.bind a4 (Ev.bind a5 (Ev.tru (by rw [f0, dec_f hc0]; rfl) (p35a noRat _ false q1))))
    · unfold pick
      rw [hlo, hn0, hn1', if_neg hc0]
      by_cases hc1 : c1 = b
      · rw [if_pos hc1]
        obtain ⟨z1, z2, z3⟩ := q3 hc1
        rw [z2 (.inl rfl)]
        exact ⟨z1, b2⟩
      · rw [if_neg hc1]
        exact (q2 hc1).2

end Go.FK


/- ApproxBack: a float's number is rounded to it, its shortest text is read as it, to the bit. -/
namespace Go.FK
open Flt
set_option exponentiation.threshold 20000

/-- The letters of a positive float's shortest text. -/
def SIs (k : Nat) (l : List Int) : Prop := ∃ (top : Int) (n m : Nat), 1 ≤ n ∧ n ≤ 17 ∧ -324 ≤ top ∧ top ≤ 308 ∧ p10 top ≤ num false k ∧ num false k < p10 (top + 1) ∧ pick k (num false k) (top - n + 1) = some m ∧
  (∀ n' : Nat, 1 ≤ n' → n' < n → pick k (num false k) (top - n' + 1) = none) ∧ l = sci (strip (dd m)) (top - n + 1 + ((dd m).length : Int) - 1)
/-- And of a finite one's. -/
def SL (s : Bool) (k : Nat) (l : List Int) : Prop := ∃ l0, l = (if s = true then [45] else []) ++ l0 ∧ (if k = 0 then l0 = [48] else SIs k l0)

theorem val_pos {k : Nat} (hk : k ≤ 9218868437227405311) : val k = num false k := by
  have := val_fb (s := false) (k := k) (by omega)
  unfold fb at this
  simpa using this

theorem p2_loop {k : Nat} (hk0 : 0 < k) (hk : k ≤ 9218868437227405311) {top : Int} (h0 : -324 ≤ top) (h3 : top ≤ 308) (h1 : p10 top ≤ num false k) (h2 : num false k < p10 (top + 1)) :
    ∀ d n : Nat, n + d = 17 → 1 ≤ n → (∀ n' : Nat, 1 ≤ n' → n' < n → pick k (num false k) (top - n' + 1) = none) → ∃ t, Ev (fun f => approx_Short.p2 f (rat (num false k)) k top (n : Int)) (t, (0 : Int)) ∧ SIs k (bs t) := by
  have hr : Rt 1000 (rat (num false k)) (num false k) := Rt.of (by have := LQ_num_k (k := k) (by omega); omega)
  intro d
  induction d with
  | zero =>
    intro n hn hn1 hno
    have e : n = 17 := by omega
    subst e
    obtain ⟨s, ok, g1, g2⟩ := shortest_ev hk hr (num_pos hk0) h0 h3 h1 h2 hn1 (by omega)
    have hne := pick17 hk0 hk h1
    cases hp : pick k (num false k) (top - (17 : Nat) + 1) with
    | none => exact absurd hp (by rw [show top - ((17 : Nat) : Int) + 1 = top - 16 by omega]; exact hne)
    | some m =>
      rw [hp] at g2
      obtain ⟨rfl, g3⟩ := g2
      refine ⟨s, Ev.turn (fun f => approx_Short.p2_succ f _ _ _ _) ?_, top, 17, m, hn1, by omega, h0, h3, h1, h2, hp, hno, g3⟩
      unfold approx_Short.e2
      exact Ev.bind g1 (Ev.tru rfl Ev.pure)
  | succ d ih =>
    intro n hn hn1 hno
    obtain ⟨s, ok, g1, g2⟩ := shortest_ev hk hr (num_pos hk0) h0 h3 h1 h2 hn1 (by omega)
    cases hp : pick k (num false k) (top - n + 1) with
    | none =>
      rw [hp] at g2
      have g2 : ok = false := g2
      subst g2
      obtain ⟨t, g3, g4⟩ := ih (n + 1) (by omega) (by omega) (fun n' a1 a2 => by
        rcases Nat.lt_succ_iff_lt_or_eq.1 a2 with h | h
        · exact hno n' a1 h
        · rw [h]; exact hp)
      refine ⟨t, Ev.turn (fun f => approx_Short.p2_succ f _ _ _ _) ?_, g4⟩
      unfold approx_Short.e2
      rw [wrap_i64 (by omega) (by omega)]
      exact Ev.bind g1 (Ev.fls rfl (by have e : ((n + 1 : Nat) : Int) = (n : Int) + 1 := by omega
                                       rw [e] at g3; exact g3))
    | some m =>
      rw [hp] at g2
      obtain ⟨rfl, g3⟩ := g2
      refine ⟨s, Ev.turn (fun f => approx_Short.p2_succ f _ _ _ _) ?_, top, n, m, hn1, by omega, h0, h3, h1, h2, hp, hno, g3⟩
      unfold approx_Short.e2
      exact Ev.bind g1 (Ev.tru rfl Ev.pure)

theorem R_pos {k : Nat} (hk : k < 9223372036854775808) : R k = (k : Int) := by
  have := R_fb (s := false) hk
  unfold fb at this
  simpa using this

theorem short_pos {k : Nat} (hk0 : 0 < k) (hk : k ≤ 9218868437227405311) : ∃ t, Ev (fun f => approx_Short.f f k) (t, (0 : Int)) ∧ SIs k (bs t) := by
  obtain ⟨top, h0, h3, h1, h2⟩ := top_exists hk0 hk
  obtain ⟨t, g1, g2⟩ := p2_loop hk0 hk h0 h3 h1 h2 16 1 (by omega) (by omega) (fun n' a1 a2 => by omega)
  have hf : Fin k := by unfold Fin; omega
  have he := exact_ev (x := k) (by omega) hf
  rw [val_pos hk] at he
  have hr : Rt 1000 (rat (num false k)) (num false k) := Rt.of (by have := LQ_num_k (k := k) (by omega); omega)
  have hz : fEq k 0 = false := by rw [fEq_eq hf.nan isN_zero, R_pos (by omega), R_zero]; exact dec_f (by omega)
  have hl : fLt k 0 = false := by rw [fLt_eq hf.nan isN_zero, R_pos (by omega), R_zero]; exact dec_f (by omega)
  refine ⟨t, Ev.turn (fun f => approx_Short.f_succ f _) ?_, g2⟩
  unfold approx_Short.e
  refine Ev.bind he (Ev.fls rfl (Ev.fls hz ?_))
  refine Ev.turn (fun f => approx_Short.p13_succ f _ _) ?_
  unfold approx_Short.e13
  exact Ev.fls hz (Ev.fls hl (Ev.bind (power10_ev hr h0 h3 h1 h2) g1))

theorem fin_fbk {s : Bool} {k : Nat} (hk : k ≤ 9218868437227405311) : Fin (fb s k) := (fin_fb (by omega)).2 hk

theorem short_ev (s : Bool) {k : Nat} (hk : k ≤ 9218868437227405311) : ∃ t, Ev (fun f => approx_Short.f f (fb s k)) (t, (0 : Int)) ∧ SL s k (bs t) := by
  have hlt := fb_lt (s := s) (k := k) (by omega)
  have hf := fin_fbk (s := s) hk
  have he := exact_ev hlt hf
  rw [val_fb (by omega)] at he
  have hR := R_fb (s := s) (k := k) (by omega)
  have hz : fEq (fb s k) 0 = decide (k = 0) := by
    rw [fEq_eq hf.nan isN_zero, hR, R_zero]
    apply decide_eq_decide.2
    split <;> omega
  by_cases hk0 : k = 0
  · subst hk0
    have hsb : Ev (fun f => math_Signbit.f f (fb s 0)) s := by
      unfold math_Signbit.f math_Signbit.e math_Float64bits.f
      refine Ev.bind Ev.pure (Ev.eq ?_)
      cases s <;> decide
    have p13 : ∀ r : RR, Ev (fun f => approx_Short.p13 f r (fb s 0)) (ByteArray.mk #[48], (0 : Int)) := fun r => by
      refine Ev.turn (fun f => approx_Short.p13_succ f _ _) ?_
      unfold approx_Short.e13
      exact Ev.tru (by rw [hz]; rfl) Ev.pure
    cases hs : s with
    | true =>
      rw [hs] at he hz hsb
      refine ⟨ByteArray.mk #[45, 48], Ev.turn (fun f => approx_Short.f_succ f _) ?_, [48], rfl, by rw [if_pos rfl]⟩
      unfold approx_Short.e
      exact Ev.bind he (Ev.fls rfl (Ev.tru (by rw [hz]; rfl) (Ev.bind hsb (Ev.tru rfl Ev.pure))))
    | false =>
      rw [hs] at he hz hsb p13
      refine ⟨ByteArray.mk #[48], Ev.turn (fun f => approx_Short.f_succ f _) ?_, [48], rfl, by rw [if_pos rfl]⟩
      unfold approx_Short.e
      exact Ev.bind he (Ev.fls rfl (Ev.tru (by rw [hz]; rfl) (Ev.bind hsb (Ev.fls rfl (p13 _)))))
  · obtain ⟨u, g1, g2⟩ := short_pos (by omega) hk
    rw [dec_f hk0] at hz
    cases hs : s with
    | false =>
      have e : fb false k = k := by unfold fb; simp
      rw [e]
      exact ⟨u, g1, bs u, by simp, by rw [if_neg hk0]; exact g2⟩
    | true =>
      rw [hs] at he hz hf hR hlt
      have hl : fLt (fb true k) 0 = true := by rw [fLt_eq hf.nan isN_zero, hR, R_zero, if_pos rfl]; exact dec_t (by omega)
      have hng : fNeg (fb true k) = k := by
        have e : fb true k = k + 9223372036854775808 := by unfold fb; simp
        rw [e, fNeg_eq (by omega), if_neg (by omega)]; omega
      have hus : u.size ≤ 1000 := by
        obtain ⟨top, n, m, a1, a2, a3, a4, a5, a6, a7, _, a9⟩ := g2
        obtain ⟨_, a10⟩ := pick_spec a7
        obtain ⟨d1, d2⟩ := lod_digits (Rat.le_of_lt (num_pos (by omega : 0 < k))) a5 a6 a1
        have hpow : 10 ^ n ≤ 10 ^ 17 := Nat.pow_le_pow_right (by omega) a2
        have hdl := dd_len10 (n := m) (t := 18) (by omega) (by omega)
        have hsl := strip_le (dd m)
        have := sci_len (strip (dd m)) (e := top - n + 1 + ((dd m).length : Int) - 1) (by omega)
        rw [← bs_length, a9]; omega
      refine ⟨ByteArray.mk #[45] ++ u, Ev.turn (fun f => approx_Short.f_succ f _) ?_, bs u, by rw [bs_append]; rfl, by rw [if_neg hk0]; exact g2⟩
      unfold approx_Short.e
      refine Ev.bind he (Ev.fls rfl (Ev.fls hz ?_))
      refine Ev.turn (fun f => approx_Short.p13_succ f _ _) ?_
      unfold approx_Short.e13
      rw [hng]
      have s45 : (ByteArray.mk #[45]).size = 1 := rfl
      exact Ev.fls hz (Ev.tru hl (Ev.bind g1 (Ev.fls (dec_f (by rw [max64, s45]; show ¬ (((1 + u.size : Nat) : Int) > 9223372036854775807); omega)) Ev.pure)))

/-! ### The shortest text is read as the float -/
theorem dspec_one (x : Int) (hx : dgt x = true) : dspec [x] = some ((x - 48).toNat, 0) := by
  simp [dspec, dfr, drest, hx, xtail, dval, nthD]

theorem zero_pl : Pl (dv 0 0) 0 (-1) := by
  have e : dv 0 0 = 0 := by unfold dv; exact Rat.zero_mul _
  rw [e]
  show At ((0 : Rat).abs * (TT : Rat)) 0 (-1)
  rw [Rat.abs_zero, Rat.zero_mul]
  have e : (U 0 : Rat) = 0 := rfl
  have e1 : (U (0 + 1) : Rat) = 1 := rfl
  exact ⟨by omega, by rw [e]; exact Rat.le_refl, Or.inr (by rw [e1]; decide), Or.inl ⟨rfl, e⟩⟩

theorem SIs.read {k : Nat} (hk0 : 0 < k) {l : List Int} (h : SIs k l) : ∃ d e, dspec l = some (d, e) ∧ Rds (dv d e) k ∧ nthD 0 l 0 ≠ 45 ∧ l.length ≤ 40 := by
  obtain ⟨top, n, m, a1, a2, a3, a4, a5, a6, a7, _, a9⟩ := h
  obtain ⟨b1, b2⟩ := pick_spec a7
  obtain ⟨d1, d2⟩ := lod_digits (Rat.le_of_lt (num_pos hk0)) a5 a6 a1
  have hpow : 10 ^ n ≤ 10 ^ 17 := Nat.pow_le_pow_right (by omega) a2
  have hpow1 : 1 ≤ 10 ^ (n - 1) := Nat.pow_pos (by omega)
  have hdl := dd_len10 (n := m) (t := 18) (by omega) (by omega)
  have hm : 0 < m := by omega
  obtain ⟨d, e, c1, c2, c3, c4⟩ := dspec_number hm (t := top - n + 1) (by omega)
  rw [← a9] at c1 c3 c4
  have hsl := strip_le (dd m)
  have hlen := sci_len (strip (dd m)) (e := top - n + 1 + ((dd m).length : Int) - 1) (by omega)
  rw [← a9] at hlen
  have hds := dspec_some c1
  obtain ⟨kk, aa, hp⟩ := pl_of d (e := e) (by omega) (by omega)
  have hrd := Rds.of_pl hp
  have hkk : nr kk aa = k := by
    rw [c2] at hrd
    rw [← nrw_eq hrd, b1]
  rw [hkk] at hrd
  refine ⟨d, e, c1, hrd, ?_, by omega⟩
  unfold dneg at c3
  simpa using c3

/-! ### The law -/
theorem num_pl (s : Bool) {k : Nat} (hk : k ≤ 9218868437227405311) : Pl (num s k) k (-1) := by
  have hU := num_mul_TT k
  have h0 : (0 : Rat) ≤ num false k := by
    refine le_of_mul TT_posR ?_
    rw [hU, Rat.zero_mul]; exact Rat.natCast_nonneg
  have ha : (num s k).abs = num false k := by
    cases s
    · exact abs_pos' h0
    · rw [num_neg, Rat.abs_neg]; exact abs_pos' h0
  show At ((num s k).abs * (TT : Rat)) k (-1)
  rw [ha, hU]
  have : (U k : Rat) < (U (k + 1) : Rat) := by exact_mod_cast U_lt_succ k
  exact ⟨hk, Rat.le_refl, .inr this, .inl ⟨rfl, rfl⟩⟩

end Go.FK


/- ApproxFewest: no text with fewer digits than the shortest is read as the same float. -/
namespace Go.FK
open Flt
set_option exponentiation.threshold 20000

/-! ### The law's count of digits -/
def nE (c : Int) : Bool := !decide (c = 101) && !decide (c = 69)
def mant (l : List Int) : List Int := (l.takeWhile nE).filter dgt
def sigd (D : List Int) : Nat := (strip (D.dropWhile (· == 48))).length

theorem dw48_snoc (D : List Int) (c : Int) : (D ++ [c]).dropWhile (· == 48) = if D.dropWhile (· == 48) = [] then [c].dropWhile (· == 48) else D.dropWhile (· == 48) ++ [c] := by
  induction D with
  | nil => simp
  | cons x xs ih =>
    by_cases h : x = 48
    · subst h
      have e : ∀ l : List Int, (48 :: l).dropWhile (· == 48) = l.dropWhile (· == 48) := fun l => by simp
      rw [List.cons_append, e, e]; exact ih
    · have : (x == 48) = false := by simpa using h
      simp [this]

theorem twp_split {p : Int → Bool} {l : List Int} {i : Nat} (h : (l.take i).all p = true) (hi : i ≤ l.length) (hb : i = l.length ∨ p (nthD 0 l i) = false) : l.takeWhile p = l.take i := by
  by_cases hl : i = l.length
  · subst hl
    rw [List.take_length] at h ⊢
    exact (tw_all h).1
  · have hb' : p (nthD 0 l i) = false := hb.resolve_left hl
    have hil : i < l.length := by omega
    have hd := cons_at hil
    obtain ⟨h1, _⟩ := tw_append (m := l.drop (i + 1)) hb' h
    rw [← hd, List.take_append_drop] at h1
    exact h1

/-- How the count stands behind some digits. -/
def DgI (D : List Int) (first last k : Int) : Prop := k = (D.length : Int) ∧ ((D.dropWhile (· == 48) = [] ∧ first = -1) ∨
  (D.dropWhile (· == 48) ≠ [] ∧ first = (D.length : Int) - ((D.dropWhile (· == 48)).length : Int) ∧ last - first + 1 = (sigd D : Int)))

theorem dw48_le (D : List Int) : (D.dropWhile (· == 48)).length ≤ D.length := (List.dropWhile_suffix _).length_le
theorem sigd_le (D : List Int) : sigd D ≤ D.length := Nat.le_trans (strip_le _) (dw48_le D)

theorem DgI.nought {D : List Int} {first last k : Int} (h : DgI D first last k) : DgI (D ++ [48]) first last (k + 1) := by
  obtain ⟨h1, h2⟩ := h
  refine ⟨by rw [List.length_append]; simp; omega, ?_⟩
  rw [dw48_snoc]
  rcases h2 with ⟨h2, h3⟩ | ⟨h2, h3, h4⟩
  · left
    rw [if_pos h2]
    exact ⟨rfl, h3⟩
  · right
    rw [if_neg h2]
    refine ⟨by simp, by simp only [List.length_append, List.length_singleton]; omega, ?_⟩
    rw [h4]
    unfold sigd
    rw [dw48_snoc, if_neg h2, strip_snoc, if_pos rfl]

theorem DgI.digit {D : List Int} {first last k : Int} (h : DgI D first last k) {c : Int} (hc : c ≠ 48) : DgI (D ++ [c]) (if first < 0 then k else first) k (k + 1) := by
  obtain ⟨h1, h2⟩ := h
  have hle := dw48_le D
  have hcb : (c == 48) = false := by simpa using hc
  refine ⟨by rw [List.length_append]; simp; omega, ?_⟩
  have e1 : ([c] : List Int).dropWhile (· == 48) = [c] := by simp [hcb]
  rcases h2 with ⟨h2, h3⟩ | ⟨h2, h3, h4⟩
  · right
    rw [dw48_snoc, if_pos h2, e1, if_pos (by omega)]
    refine ⟨by simp, by simp only [List.length_append, List.length_singleton]; omega, ?_⟩
    unfold sigd
    have e2 : strip [c] = [c] := by
      have := strip_snoc [] c
      rw [List.nil_append, if_neg hc] at this
      exact this
    rw [dw48_snoc, if_pos h2, e1, e2, List.length_singleton]
    omega
  · right
    rw [dw48_snoc, if_neg h2, if_neg (by omega)]
    refine ⟨by simp, by simp only [List.length_append, List.length_singleton]; omega, ?_⟩
    unfold sigd
    rw [dw48_snoc, if_neg h2, strip_snoc, if_neg hc, List.length_append, List.length_singleton]
    omega

theorem ldigits_ev (s : ByteArray) (hs : s.size ≤ 1000) : Ev (fun k => law04_digits.f k s) (sigd (mant (bs s)) : Int) := by
  have hl := bs_length s
  have p27 : ∀ (D : List Int) (first last k : Int), D.length ≤ 1000 → DgI D first last k → Ev (fun f => law04_digits.p27 f first last) (sigd D : Int) := by
    intro D first last k hD h
    refine Ev.turn (fun f => law04_digits.p27_succ f _ _) ?_
    unfold law04_digits.e27
    obtain ⟨h1, h2⟩ := h
    have hle := dw48_le D
    have hsl := sigd_le D
    rcases h2 with ⟨h2, h3⟩ | ⟨h2, h3, h4⟩
    · have e : sigd D = 0 := by unfold sigd; rw [h2]; rfl
      rw [e]
      exact Ev.tru (dec_t (by omega)) Ev.pure
    · refine Ev.fls (dec_f (by omega)) ?_
      have e1 : IntKind.i64.wrap (last - first) = last - first := wrap_i64 (by omega) (by omega)
      rw [e1, wrap_i64 (by omega) (by omega), h4]
      exact Ev.pure
  have loop : ∀ m i : Nat, m + i = s.size → ((bs s).take i).all nE = true → ∀ first last k : Int, DgI (((bs s).take i).filter dgt) first last k → Ev (fun f => law04_digits.p0 f s first last k (i : Int)) (sigd (mant (bs s)) : Int) := by
    intro m
    induction m with
    | zero =>
      intro i hi ha first last k hI
      have ht := twp_split ha (by omega) (.inl (by omega))
      have hm : mant (bs s) = ((bs s).take i).filter dgt := by unfold mant; rw [ht]
      have hlen : (((bs s).take i).filter dgt).length ≤ 1000 := by
        have := List.length_filter_le dgt ((bs s).take i)
        rw [List.length_take] at this; omega
      refine Ev.turn (fun f => law04_digits.p0_succ f _ _ _ _ _) ?_
      unfold law04_digits.e0
      rw [hm]
      exact Ev.fls (dec_f (by omega)) (p27 _ _ _ _ hlen hI)
    | succ m ih =>
      intro i hi ha first last k hI
      have hil : i < (bs s).length := by omega
      have hlen : (((bs s).take i).filter dgt).length ≤ 1000 := by
        have := List.length_filter_le dgt ((bs s).take i)
        rw [List.length_take] at this; omega
      have hk : k = ((((bs s).take i).filter dgt).length : Int) := hI.1
      have htk := take_succ_get (a := bs s) (n := i) hil
      have hnext : ∀ first' last' k' : Int, nE (nthD 0 (bs s) i) = true → DgI (((bs s).take (i + 1)).filter dgt) first' last' k' → Ev (fun f => law04_digits.p13 f s first' last' k' (i : Int)) (sigd (mant (bs s)) : Int) := by
        intro first' last' k' hE hI'
        refine Ev.turn (fun f => law04_digits.p13_succ f _ _ _ _ _) ?_
        unfold law04_digits.e13
        rw [wrap_i64 (by omega) (by omega)]
        have := ih (i + 1) (by omega) (by rw [htk, List.all_append, ha]; simp [hE]) first' last' k' hI'
        rw [show (((i + 1 : Nat) : Nat) : Int) = (i : Int) + 1 by omega] at this
        exact this
      have hstop : nE (nthD 0 (bs s) i) = false → Ev (fun f => law04_digits.p27 f first last) (sigd (mant (bs s)) : Int) := fun hE => by
        have ht := twp_split ha (by omega) (.inr hE)
        have hm : mant (bs s) = ((bs s).take i).filter dgt := by unfold mant; rw [ht]
        rw [hm]
        exact p27 _ _ _ _ hlen hI
      have hskip : dgt (nthD 0 (bs s) i) = false → ((bs s).take (i + 1)).filter dgt = ((bs s).take i).filter dgt := fun h => by rw [htk, List.filter_append]; simp [h]
      have htake : dgt (nthD 0 (bs s) i) = true → ((bs s).take (i + 1)).filter dgt = ((bs s).take i).filter dgt ++ [nthD 0 (bs s) i] := fun h => by rw [htk, List.filter_append]; simp [h]
      refine Ev.turn (fun f => law04_digits.p0_succ f _ _ _ _ _) ?_
      unfold law04_digits.e0
      rw [bs_btI]
      have hin : (decide (0 ≤ (i : Int)) && decide ((i : Int) < (s.size : Int))) = true := by simp; omega
      generalize nthD 0 (bs s) i = x at *
      refine Ev.tru (dec_t (by omega)) (Ev.tru hin ?_)
      by_cases c1 : x = 101
      · exact Ev.fls (by rw [dec_t c1]; rfl) (hstop (by simp [nE, c1]))
      by_cases c2 : x = 69
      · exact Ev.tru (by rw [dec_f c1]; rfl) (Ev.tru hin (Ev.fls (by rw [dec_t c2]; rfl) (hstop (by simp [nE, c2]))))
      have hE : nE x = true := by simp [nE, c1, c2]
      refine Ev.tru (by rw [dec_f c1]; rfl) (Ev.tru hin (Ev.tru (by rw [dec_f c2]; rfl) (Ev.tru hin ?_)))
      by_cases c3 : x < 48
      · exact Ev.tru (dec_t c3) (hnext _ _ _ hE (by rw [hskip (by simp [dgt]; omega)]; exact hI))
      refine Ev.fls (dec_f c3) (Ev.tru hin ?_)
      by_cases c4 : x > 57
      · exact Ev.tru (dec_t c4) (hnext _ _ _ hE (by rw [hskip (by simp [dgt]; omega)]; exact hI))
      refine Ev.fls (dec_f c4) (Ev.tru hin ?_)
      have hd : dgt x = true := by simp [dgt]; omega
      have hw : IntKind.i64.wrap (k + 1) = k + 1 := wrap_i64 (by omega) (by omega)
      by_cases c5 : x = 48
      · refine Ev.fls (by rw [dec_t c5]; rfl) ?_
        rw [hw]
        exact hnext _ _ _ hE (by rw [htake hd, c5]; exact hI.nought)
      · refine Ev.tru (by rw [dec_f c5]; rfl) ?_
        have p23 : ∀ first' : Int, first' = (if first < 0 then k else first) → Ev (fun f => law04_digits.p23 f s first' k (i : Int)) (sigd (mant (bs s)) : Int) := fun first' hf => by
          refine Ev.turn (fun f => law04_digits.p23_succ f _ _ _ _) ?_
          unfold law04_digits.e23
          rw [hw]
          exact hnext _ _ _ hE (by rw [htake hd, hf]; exact hI.digit c5)
        by_cases c6 : first < 0
        · exact Ev.tru (dec_t c6) (p23 k (by rw [if_pos c6]))
        · exact Ev.fls (dec_f c6) (p23 first (by rw [if_neg c6]))
  unfold law04_digits.f law04_digits.e
  exact loop s.size 0 (by omega) (by simp) (-1) (-1) 0 ⟨by simp, .inl ⟨by simp, rfl⟩⟩

/-! ### The digits of what was read, and of the shortest text -/
theorem nE_dgt {c : Int} (h : dgt c = true) : nE c = true := by
  have := dgt_rng h
  simp [nE]; omega
theorem all_nE {l : List Int} (h : l.all dgt = true) : l.all nE = true := List.all_eq_true.2 fun x hx => nE_dgt (List.all_eq_true.1 h x hx)
theorem filter_all {l : List Int} (h : l.all dgt = true) : l.filter dgt = l := List.filter_eq_self.2 fun x hx => List.all_eq_true.1 h x hx

theorem mant_app {a m : List Int} (ha : a.all nE = true) (hm : m = [] ∨ ∃ c t, m = c :: t ∧ nE c = false) : mant (a ++ m) = a.filter dgt := by
  unfold mant
  rcases hm with rfl | ⟨c, t, rfl, hc⟩
  · rw [List.append_nil, (tw_all ha).1]
  · rw [(tw_append hc ha).1]

theorem mant_neg (l : List Int) : mant (45 :: l) = mant l := by
  unfold mant
  have h1 : nE 45 = true := by decide
  have h2 : dgt 45 = false := by decide
  rw [List.takeWhile_cons, if_pos h1, List.filter_cons, if_neg (by rw [h2]; simp)]

theorem xtail_end {R : List Int} {e : Int} (h : xtail R = some e) : R = [] ∨ ∃ c t, R = c :: t ∧ nE c = false := by
  unfold xtail at h
  split at h
  · rename_i hn; exact .inl hn
  · split at h
    · rename_i hn hc
      right
      cases R with
      | nil => exact absurd rfl hn
      | cons c t =>
        refine ⟨c, t, rfl, ?_⟩
        have hc : c = 101 ∨ c = 69 := hc
        rcases hc with rfl | rfl <;> decide
    · cases h

theorem mant_dspec {b : List Int} {d : Nat} {e : Int} (h : dspec b = some (d, e)) : d = dval (mant b) ∧ (mant b).all dgt = true := by
  unfold dspec at h
  split at h
  · cases h
  · rename_i hno
    split at h
    · cases h
    · rename_i x hx
      simp only [Option.some.injEq, Prod.mk.injEq] at h
      have hend := xtail_end hx
      have htw := tw_dgt b
      have hsp := List.takeWhile_append_dropWhile (p := dgt) (l := b)
      have hm : mant b = b.takeWhile dgt ++ dfr b := by
        by_cases h46 : nthD 0 (b.dropWhile dgt) 0 = 46
        · have hfr : dfr b = ((b.dropWhile dgt).drop 1).takeWhile dgt := by unfold dfr; rw [if_pos h46]
          have hre : drest b = ((b.dropWhile dgt).drop 1).dropWhile dgt := by unfold drest; rw [if_pos h46]
          have hsp2 := List.takeWhile_append_dropWhile (p := dgt) (l := (b.dropWhile dgt).drop 1)
          have hft := tw_dgt ((b.dropWhile dgt).drop 1)
          rw [← hfr] at hsp2 hft
          rw [← hre] at hsp2
          have hW : b.dropWhile dgt = 46 :: (b.dropWhile dgt).drop 1 := by
            cases hw : b.dropWhile dgt with
            | nil => rw [hw, nth_nil] at h46; omega
            | cons c t => rw [hw] at h46; have : c = 46 := h46; rw [this]; rfl
          have hb : b = (b.takeWhile dgt ++ 46 :: dfr b) ++ drest b := by
            conv => lhs; rw [← hsp, hW, ← hsp2]
            simp
          conv => lhs; rw [hb]
          have h2 : dgt 46 = false := by decide
          rw [mant_app (by rw [List.all_append, all_nE htw, List.all_cons, all_nE hft]; decide) hend, List.filter_append, filter_all htw, List.filter_cons, if_neg (by rw [h2]; simp), filter_all hft]
        · have hfr : dfr b = [] := by unfold dfr; rw [if_neg h46]
          have hre : drest b = b.dropWhile dgt := by unfold drest; rw [if_neg h46]
          rw [hre] at hend
          rw [hfr, List.append_nil]
          conv => lhs; rw [← hsp]
          rw [mant_app (all_nE htw) hend, filter_all htw]
      have hall : (mant b).all dgt = true := by
        rw [hm, List.all_append, htw]
        unfold dfr
        split
        · rw [tw_dgt]; rfl
        · rfl
      exact ⟨by rw [hm]; exact h.1.symm, hall⟩

theorem mant_body (l : List Int) : mant l = mant (dbody l) := by
  unfold dbody
  split
  · rename_i h
    cases l with
    | nil => rfl
    | cons c t => have : c = 45 := h; rw [this, mant_neg]; rfl
  · rfl

/-- A number of digits: the first and the last of which are none of the noughts. -/
theorem sigd_split {D : List Int} (h : D.all dgt = true) : ∃ M j : Nat, dval D = M * 10 ^ j ∧ M < 10 ^ sigd D := by
  obtain ⟨h1, h2⟩ := d48_all D
  rw [h] at h1
  exact ⟨dval (strip (D.dropWhile (· == 48))), (D.dropWhile (· == 48)).length - (strip (D.dropWhile (· == 48))).length, by rw [strip_val, h2], dval_bound (strip_all h1)⟩

theorem strip_pow : ∀ n : Nat, strip (dd (10 ^ n)) = [49] := by
  intro n
  induction n with
  | zero => decide +kernel
  | succ n ih =>
    have h : 10 ≤ 10 ^ (n + 1) := by
      rw [Nat.pow_succ]
      have := Nat.pow_pos (n := n) (by omega : 0 < 10)
      omega
    have e1 : 10 ^ (n + 1) / 10 = 10 ^ n := by rw [Nat.pow_succ]; exact Nat.mul_div_cancel _ (by omega)
    have e2 : 10 ^ (n + 1) % 10 = 0 := by rw [Nat.pow_succ]; exact Nat.mul_mod_left _ _
    rw [dd_big h, e1, e2, strip_snoc, if_pos (by rfl), ih]

theorem dv_shift (M i : Nat) (t : Int) : dv (M * 10 ^ i) t = dv M (t + i) := by
  unfold dv
  rw [p10_add_nat, Rat.natCast_mul]
  grind

/-- No number of fewer digits is rounded to it. -/
theorem fewest {k : Nat} (hk0 : 0 < k) {top : Int} (h0 : -324 ≤ top) (h3 : top ≤ 308) (h1 : p10 top ≤ num false k) (h2 : num false k < p10 (top + 1)) {n : Nat} (hn17 : n ≤ 17)
    (hno : ∀ n' : Nat, 1 ≤ n' → n' < n → pick k (num false k) (top - n' + 1) = none) (hk : k ≤ 9218868437227405311) {M c : Nat} {E : Int} (hM : M < 10 ^ c) (hr : Rds (dv M E) k) : n ≤ c := by
  apply Classical.byContradiction
  intro hlt
  have hr0 := Rat.le_of_lt (num_pos hk0)
  have hM0 : 0 < M := by
    rcases Nat.eq_zero_or_pos M with h | h
    · exfalso
      subst h
      have e : dv 0 E = 0 := by unfold dv; exact Rat.zero_mul _
      have hz : Rds (dv 0 E) 0 := by
        have := zero_pl
        have e2 : dv 0 0 = 0 := by unfold dv; exact Rat.zero_mul _
        rw [e2] at this
        rw [e]
        exact ⟨0, -1, this, by unfold nr; simp⟩
      have := hz.unique hr
      omega
    · exact h
  have hc1 : 1 ≤ c := by
    rcases Nat.eq_zero_or_pos c with h | h
    · subst h; simp at hM; omega
    · exact h
  obtain ⟨n1, n2⟩ := pick_none (hno c hc1 (by omega))
  obtain ⟨d1, d2⟩ := lod_digits hr0 h1 h2 hc1
  obtain ⟨g1, g2⟩ := lod_spec hr0 (top - c + 1)
  obtain ⟨t, ht⟩ : ∃ t, top - (c : Int) + 1 = t := ⟨_, rfl⟩
  rw [ht] at n1 n2 d1 d2 g1 g2
  have hpow : 10 ^ c ≤ 10 ^ 17 := Nat.pow_le_pow_right (by omega) (by omega)
  have hself : Rds (num false k) k := ⟨k, -1, num_pl false hk, by unfold nr; simp⟩
  have hex : ∀ m : Nat, m ≤ 10 ^ 17 → ∃ b, Rds (dv m t) b := fun m hm => by
    obtain ⟨kk, aa, hp⟩ := pl_of m (e := t) (by have := L_le (n := m) (m := 2) (by omega); omega) (by omega)
    exact ⟨_, Rds.of_pl hp⟩
  obtain ⟨b1, hb1⟩ := hex (lod (num false k) t) (by omega)
  obtain ⟨b2, hb2⟩ := hex (lod (num false k) t + 1) (by omega)
  have hbase := dv_pow (c - 1) t
  rw [show t + ((c - 1 : Nat) : Int) = top by omega] at hbase
  have hlow : p10 top ≤ dv (lod (num false k) t) t := by
    rw [← hbase]
    rcases Nat.lt_or_ge (10 ^ (c - 1)) (lod (num false k) t) with h | h
    · exact Rat.le_of_lt (dv_lt_iff.2 h)
    · rw [show 10 ^ (c - 1) = lod (num false k) t by omega]; exact Rat.le_refl
  have hmono : ∀ x y : Nat, x ≤ y → dv x t ≤ dv y t := fun x y h => by
    rcases Nat.lt_or_ge x y with h' | h'
    · exact Rat.le_of_lt (dv_lt_iff.2 h')
    · rw [show x = y by omega]; exact Rat.le_refl
  by_cases hE : t ≤ E
  · obtain ⟨i, hi⟩ : ∃ i : Nat, E = t + i := ⟨(E - t).toNat, by omega⟩
    rw [hi, ← dv_shift] at hr
    by_cases hle : M * 10 ^ i ≤ lod (num false k) t
    · have := Rds.mid (dv_nonneg _ _) (hmono _ _ hle) g1 hr hself hb1
      exact n1 (by rw [nrw_eq hb1, this])
    · have := Rds.mid (by grind) (Rat.le_of_lt g2) (hmono (lod (num false k) t + 1) (M * 10 ^ i) (by omega)) hself hr hb2
      exact n2 (by rw [nrw_eq hb2, this])
  · have hw : dv M E < p10 top := by
      have a1 : dv M E < dv (10 ^ c) E := dv_lt_iff.2 hM
      rw [dv_pow] at a1
      have := p10_le (show E + (c : Int) ≤ top by omega)
      grind
    have := Rds.mid (dv_nonneg _ _) (by grind) g1 hr hself hb1
    exact n1 (by rw [nrw_eq hb1, this])

theorem SL.sig {s : Bool} {k : Nat} (hk : k ≤ 9218868437227405311) {l : List Int} (h : SL s k l) {M c : Nat} {E : Int} (hM : M < 10 ^ c) (hr : Rds (dv M E) k) : sigd (mant l) ≤ c := by
  obtain ⟨l0, h1, h2⟩ := h
  have hml : mant l = mant l0 := by
    rw [h1]
    cases s
    · rfl
    · exact mant_neg l0
  rw [hml]
  by_cases hk0 : k = 0
  · rw [if_pos hk0] at h2
    subst h2
    have : sigd (mant [48]) = 0 := by decide
    omega
  · rw [if_neg hk0] at h2
    obtain ⟨top, n, m, a1, a2, a3, a4, a5, a6, a7, a8, a9⟩ := h2
    have hn := fewest (by omega) a3 a4 a5 a6 a2 a8 hk hM hr
    obtain ⟨_, b2⟩ := pick_spec a7
    obtain ⟨d1, d2⟩ := lod_digits (Rat.le_of_lt (num_pos (by omega : 0 < k))) a5 a6 a1
    have hpow1 : 1 ≤ 10 ^ (n - 1) := Nat.pow_pos (by omega)
    have hlen : (strip (dd m)).length ≤ n := by
      by_cases hm : m < 10 ^ n
      · exact Nat.le_trans (strip_le _) (dd_len10 hm (by omega))
      · have : m = 10 ^ n := by omega
        rw [this, strip_pow]; simpa using a1
    have hall := strip_all (dd_all m)
    have hmt : mant l0 = strip (dd m) := by
      rw [a9]
      unfold sci
      have hx : nE 101 = false := by decide
      split
      · have h46 : dgt 46 = false := by decide
        have ht : ((strip (dd m)).take 1).all dgt = true := List.all_eq_true.2 fun x hx => List.all_eq_true.1 hall x (List.mem_of_mem_take hx)
        have hdr : ((strip (dd m)).drop 1).all dgt = true := List.all_eq_true.2 fun x hx => List.all_eq_true.1 hall x (List.mem_of_mem_drop hx)
        rw [mant_app (by rw [List.all_append, all_nE ht, List.all_cons, all_nE hdr]; decide) (.inr ⟨_, _, rfl, hx⟩), List.filter_append, filter_all ht, List.filter_cons, if_neg (by rw [h46]; simp), filter_all hdr, List.take_append_drop]
      · rw [mant_app (all_nE hall) (.inr ⟨_, _, rfl, hx⟩), filter_all hall]
    rw [hmt]
    have := sigd_le (strip (dd m))
    omega

/-! ### The law -/
theorem one_read : Ev (fun f => approx_Read.f f (ByteArray.mk #[49])) (4607182418800017408, (0 : Int)) := by
  have hb : bs (ByteArray.mk #[49]) = [49] := rfl
  have hd : dspec (dbody (bs (ByteArray.mk #[49]))) = some (1, 0) := dspec_one 49 (by decide)
  have e : dv 1 0 = 1 := by
    have h := dv_pow 0 0
    rw [show (10 : Nat) ^ 0 = 1 from rfl, show (0 : Int) + ((0 : Nat) : Int) = ((0 : Nat) : Int) from rfl, p10_nat] at h
    exact h
  have hp : Pl (dv 1 0) 4607182418800017408 (-1) := by rw [e]; exact one_at
  have := aread_ev (s := ByteArray.mk #[49]) (by decide) hd hp
  have e2 : rdB (dneg (bs (ByteArray.mk #[49]))) (dv 1 0) 4607182418800017408 (-1) = 4607182418800017408 := by
    have hz : ¬ dv 1 0 < 0 := dv_nonneg _ _
    rw [hb]
    unfold rdB nrB fb nr dneg
    rw [dec_f hz]
    decide
  rw [e2] at this
  exact this

theorem fewest_ev (s : ByteArray) : Ev (fun f => law04_ApproxFewest.f f s) true := by
  have p13 : Ev (fun f => law04_ApproxFewest.p13 f ()) true := Ev.turn (fun f => law04_ApproxFewest.p13_succ f _) Ev.pure
  have hone : fEq 4607182418800017408 4607182418800017408 = true := by decide
  unfold law04_ApproxFewest.f law04_ApproxFewest.e
  by_cases hs : s.size ≤ 1000
  · cases hd : dspec (dbody (bs s)) with
    | none => exact Ev.bind (aread_none hs hd) (Ev.bind one_read (Ev.fls rfl (Ev.fls (by rw [hone]; rfl) (Ev.tru rfl p13))))
    | some x =>
      obtain ⟨d, e⟩ := x
      have hb := dspec_some hd
      have hbl := dbody_len (bs s)
      rw [bs_length] at hbl
      obtain ⟨k, a, hp⟩ := pl_of d (e := e) (by omega) (by omega)
      have hr := aread_ev hs hd hp
      have hle := (Rds.of_pl hp).le
      have hx : rdB (dneg (bs s)) (dv d e) k a = fb (dneg (bs s)) (nr k a) := by
        have hz : ¬ dv d e < 0 := dv_nonneg _ _
        unfold rdB nrB fb
        rw [dec_f hz]
        simp
      rw [hx] at hr
      refine Ev.bind hr (Ev.bind one_read (Ev.fls rfl (Ev.fls (by rw [hone]; rfl) (Ev.fls rfl ?_))))
      have hlt := fb_lt (s := dneg (bs s)) (k := nr k a) (by omega)
      have hfe := finite_ev hlt
      refine Ev.bind hfe ?_
      by_cases hf : Fin (fb (dneg (bs s)) (nr k a))
      · rw [fin_iff.2 hf]
        have hk := (fin_fb (s := dneg (bs s)) (k := nr k a) (by omega)).1 hf
        obtain ⟨t, h1, h2⟩ := short_ev (dneg (bs s)) hk
        have hts : t.size ≤ 1000 := by
          obtain ⟨l0, q1, q2⟩ := h2
          rw [← bs_length, q1, List.length_append]
          by_cases hk0 : nr k a = 0
          · rw [if_pos hk0] at q2
            rw [q2]
            cases dneg (bs s) <;> simp
          · rw [if_neg hk0] at q2
            obtain ⟨_, _, _, _, _, c4⟩ := q2.read (by omega)
            cases dneg (bs s) <;> simp <;> omega
        obtain ⟨m1, m2⟩ := mant_dspec hd
        obtain ⟨M, j, j1, j2⟩ := sigd_split m2
        have hrd := Rds.of_pl hp
        rw [m1, j1, dv_shift] at hrd
        have hrd2 : Rds (dv M (e + j)) (nr k a) := hrd
        have hsig := h2.sig hk j2 hrd2
        rw [← mant_body] at hsig
        refine Ev.fls rfl (Ev.bind h1 (Ev.tru (dec_t rfl) (Ev.bind (ldigits_ev t hts) (Ev.bind (ldigits_ev s hs) ?_))))
        rw [dec_t (by omega)]
        exact Ev.pure
      · have hff : (!isN (fb (dneg (bs s)) (nr k a)) && !isI (fb (dneg (bs s)) (nr k a))) = false := by
          cases h : (!isN (fb (dneg (bs s)) (nr k a)) && !isI (fb (dneg (bs s)) (nr k a))) with
          | false => rfl
          | true => exact absurd (fin_iff.1 h) hf
        rw [hff]
        exact Ev.tru rfl p13
  · have hr : Ev (fun f => approx_Read.f f s) ((0 : Nat), (3 : Int)) := by
      unfold approx_Read.f approx_Read.e
      exact Ev.tru (dec_t (by omega)) Ev.pure
    exact Ev.bind hr (Ev.bind one_read (Ev.fls rfl (Ev.fls (by rw [hone]; rfl) (Ev.tru rfl p13))))

theorem fewest_math (x : TD [.str]) (_hw : wfDs (encT [.str] x)) (_hm : massDs (encT [.str] x) ≤ 1048576) : ∃ k, law04_ApproxFewest.f k x = some true := (fewest_ev x).some

end Go.FK
