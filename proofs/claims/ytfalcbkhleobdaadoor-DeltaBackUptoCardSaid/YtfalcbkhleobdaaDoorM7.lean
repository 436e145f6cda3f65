import Derived.Test.YtfalcbkhleobdaaDoorM5
import Derived.Test.YtfalcbkhleobdaaDoorM6

/- The plain law: a number's text, read again. -/
namespace Go.FK

theorem bs_append (a b : ByteArray) : bs (a ++ b) = bs a ++ bs b := by
  unfold bs
  rw [ByteArray.data_append, Array.toList_append, List.map_append]
/-! ### Digits -/
theorem chr_eq : ∀ n : Nat, n < 10 → chr n = 48 + (n : Int) := by decide +kernel
theorem bs_push (s : ByteArray) (c : UInt8) : bs (s.push c) = bs s ++ [(c.toNat : Int)] := by
  unfold bs
  rw [ByteArray.data_push, Array.toList_push, List.map_append]
  rfl
theorem bs_ofB_from : ∀ (l : List Int) (s : ByteArray), (∀ x ∈ l, 0 ≤ x ∧ x < 256) → bs (l.foldl (fun s n => s.push (UInt8.ofNat n.toNat)) s) = bs s ++ l
  | [], s, _ => by simp
  | x :: xs, s, h => by
    have hx := h x (by simp)
    rw [List.foldl_cons, bs_ofB_from xs _ (fun y hy => h y (by simp [hy])), bs_push]
    have : ((UInt8.ofNat x.toNat).toNat : Int) = x := by
      rw [UInt8.toNat_ofNat']
      have : x.toNat % 2 ^ 8 = x.toNat := Nat.mod_eq_of_lt (by omega)
      rw [this]; omega
    rw [this, List.append_assoc]
    rfl
theorem bs_ofB {l : List Int} (h : ∀ x ∈ l, 0 ≤ x ∧ x < 256) : bs (ofB l) = l := by
  unfold ofB
  rw [bs_ofB_from l _ h]
  rfl
theorem dg_mem (n : Nat) : ∀ x ∈ dg n, dgt x = true := by
  induction n using Nat.strongRecOn with
  | _ n ih =>
    intro x hx
    by_cases h : n = 0
    · rw [h, dg_zero] at hx; cases hx
    · rw [dg_pos h] at hx
      rcases List.mem_cons.1 hx with hx | hx
      · subst hx
        rw [chr_eq _ (Nat.mod_lt _ (by omega))]
        unfold dgt
        have := Nat.mod_lt n (by omega : 0 < 10)
        simp; omega
      · exact ih _ (by omega) x hx
/-- The digits, the highest first. -/
def dd (n : Nat) : List Int := if n = 0 then [48] else (dg n).reverse
theorem dgt_range {x : Int} (h : dgt x = true) : 48 ≤ x ∧ x ≤ 57 := by
  unfold dgt at h
  simpa using h
theorem bs_txt (n : Nat) : bs (txt n) = dd n := by
  unfold txt fin dd
  by_cases h : n = 0
  · subst h
    rw [dg_zero, if_pos rfl, if_pos rfl]
    rfl
  · have : dg n ≠ [] := by rw [dg_pos h]; simp
    rw [if_neg this, if_neg h]
    exact bs_ofB fun x hx => by
      have := dgt_range (dg_mem n x (by simpa using hx))
      omega
theorem dd_snoc (n : Nat) : ∃ l, dd n = l ++ [48 + ((n % 10 : Nat) : Int)] ∧ (l = [] ∨ l = dd (n / 10)) := by
  by_cases h : n = 0
  · subst h
    exact ⟨[], rfl, .inl rfl⟩
  · unfold dd
    rw [if_neg h, dg_pos h, List.reverse_cons, chr_eq _ (Nat.mod_lt _ (by omega))]
    refine ⟨_, rfl, ?_⟩
    by_cases h1 : n / 10 = 0
    · left; rw [h1, dg_zero]; rfl
    · right; rw [if_neg h1]
theorem dd_all (n : Nat) : (dd n).all dgt = true := by
  rw [List.all_eq_true]
  intro x hx
  unfold dd at hx
  split at hx
  · simp only [List.mem_singleton] at hx; subst hx; decide
  · exact dg_mem n x (by simpa using hx)
theorem dd_val : ∀ n : Nat, dval (dd n) = n := by
  intro n
  induction n using Nat.strongRecOn with
  | _ n ih =>
    by_cases h : n = 0
    · subst h; decide
    · unfold dd
      rw [if_neg h, dg_pos h, List.reverse_cons, dval_snoc, chr_eq _ (Nat.mod_lt _ (by omega))]
      by_cases h1 : n / 10 = 0
      · rw [h1, dg_zero]
        show 0 * 10 + _ = _
        omega
      · have := ih (n / 10) (by omega)
        unfold dd at this
        rw [if_neg h1] at this
        rw [this]
        omega
theorem dd_ne (n : Nat) : dd n ≠ [] := by
  obtain ⟨l, h, _⟩ := dd_snoc n
  rw [h]; simp
/-- No nought at the front of a longer one. -/
theorem dd_head : ∀ n : Nat, 0 < n → nthD 0 (dd n) 0 ≠ 48 := by
  intro n
  induction n using Nat.strongRecOn with
  | _ n ih =>
    intro hn
    obtain ⟨l, h, hl⟩ := dd_snoc n
    by_cases h1 : n / 10 = 0
    · unfold dd
      rw [if_neg (by omega), dg_pos (by omega), h1, dg_zero, chr_eq _ (Nat.mod_lt _ (by omega))]
      show (48 + ((n % 10 : Nat) : Int)) ≠ 48
      omega
    · have h2 := ih (n / 10) (by omega) (by omega)
      have e : dd n = dd (n / 10) ++ [48 + ((n % 10 : Nat) : Int)] := by
        unfold dd
        rw [if_neg (by omega), if_neg h1, dg_pos (by omega), List.reverse_cons, chr_eq _ (Nat.mod_lt _ (by omega))]
      rw [e]
      have hne := dd_ne (n / 10)
      cases hd : dd (n / 10) with
      | nil => exact absurd hd hne
      | cons x xs => rw [hd] at h2; exact h2
theorem dd_zero_head {n : Nat} (h : 1 < (dd n).length) : nthD 0 (dd n) 0 ≠ 48 := by
  by_cases hn : n = 0
  · subst hn; simp [dd] at h
  · exact dd_head n (by omega)
theorem pn_dd (n : Nat) : pn (dd n) = some n := by
  unfold pn
  rw [if_neg (fun h => by
    rcases h with h | h
    · exact dd_ne n h
    · exact dd_zero_head h.1 h.2), if_pos (dd_all n), dd_val]

theorem dd_length10 : ∀ (t n : Nat), n < 10 ^ t → (dg n).length ≤ t := by
  intro t
  induction t with
  | zero => intro n hn; obtain rfl : n = 0 := by simpa using hn
            rw [dg_zero]; simp
  | succ t ih =>
    intro n hn
    by_cases h : n = 0
    · subst h; rw [dg_zero]; simp
    · have := ih (n / 10) (by rw [Nat.pow_succ] at hn; omega)
      rw [dg_pos h, List.length_cons]; omega
theorem dd_size (n : Nat) : (dd n).length ≤ 10 * L n + 1 := by
  unfold dd
  split
  · simp
  · rw [List.length_reverse]
    have h1 := L_lt n
    have h2 : 4294967296 ^ L n ≤ (10 ^ 10) ^ L n := Nat.pow_le_pow_left (by decide) _
    rw [← Nat.pow_mul] at h2
    have := dd_length10 (10 * L n) n (by omega)
    omega

/-! ### A ratio's text -/
def qb (q : Rat) : List Int := (if q.num < 0 then [45] else []) ++ (dd q.num.natAbs ++ (if q.den = 1 then [] else 47 :: dd q.den))
theorem bs_qtxt (q : Rat) : bs (qtxt q) = qb q := by
  have e1 : bs (ByteArray.mk #[45]) = [45] := rfl
  have e2 : bs (ByteArray.mk #[47]) = [47] := rfl
  have hw : bs (wtxt q.num) = (if q.num < 0 then [45] else []) ++ dd q.num.natAbs := by
    unfold wtxt
    split
    · rw [bs_append, bs_txt, e1]
    · rw [bs_txt]; rfl
  unfold qtxt qb
  split
  · rw [hw, List.append_nil]
  · rw [bs_append, bs_append, bs_txt, hw, e2, List.append_assoc]; rfl

def rd (l : List Int) : Option Rat := rspec (sgn0 l) (body l)
theorem rspec_digits (neg : Bool) (n d : Nat) (hd : d ≠ 0) : rspec neg (dd n ++ (if d = 1 then [] else 47 :: dd d)) = some (mkRat (sg neg n) d) := by
  unfold rspec
  by_cases h1 : d = 1
  · subst h1
    rw [if_pos rfl, List.append_nil, (takeWhile_all (dd_all n)).1, (takeWhile_all (dd_all n)).2, pn_dd]
  · rw [if_neg h1]
    have h := takeWhile_append (m := dd d) d47 (dd_all n)
    rw [h.1, h.2, pn_dd]
    simp only [if_true, pn_dd, if_neg hd]
theorem dd_not45 (n : Nat) (t : List Int) : nthD 0 (dd n ++ t) 0 ≠ 45 := by
  have h1 := dd_ne n
  have h2 := dd_all n
  cases hd : dd n with
  | nil => exact absurd hd h1
  | cons x xs =>
    rw [hd, List.all_cons, Bool.and_eq_true] at h2
    have := dgt_range h2.1
    show x ≠ 45
    omega
theorem rd_qb (q : Rat) : rd (qb q) = some q := by
  have hd : q.den ≠ 0 := q.den_nz
  unfold rd qb sgn0 body
  by_cases hn : q.num < 0
  · rw [if_pos hn]
    have c : nthD 0 ([45] ++ (dd q.num.natAbs ++ (if q.den = 1 then [] else 47 :: dd q.den))) 0 = 45 ∧ 0 < ([45] ++ (dd q.num.natAbs ++ (if q.den = 1 then [] else 47 :: dd q.den))).length := ⟨rfl, by simp⟩
    unfold sgn0
    rw [dec_t c, if_pos rfl]
    show rspec true (dd q.num.natAbs ++ _) = _
    rw [rspec_digits _ _ _ hd]
    have : sg true q.num.natAbs = q.num := by unfold sg; rw [if_pos rfl]; omega
    rw [this, Rat.mkRat_self]
  · rw [if_neg hn, List.nil_append]
    have c : ¬ (nthD 0 (dd q.num.natAbs ++ (if q.den = 1 then [] else 47 :: dd q.den)) 0 = 45 ∧ 0 < (dd q.num.natAbs ++ (if q.den = 1 then [] else 47 :: dd q.den)).length) := fun h => dd_not45 _ _ h.1
    unfold sgn0
    rw [dec_f c, if_neg (by simp), rspec_digits _ _ _ hd]
    have : sg false q.num.natAbs = q.num := by unfold sg; rw [if_neg (by simp)]; omega
    rw [this, Rat.mkRat_self]
theorem rd_qtxt (q : Rat) : rd (bs (qtxt q)) = some q := by rw [bs_qtxt]; exact rd_qb q
theorem rd_LQ {l : List Int} {q : Rat} (h : rd l = some q) : LQ q ≤ 5 * l.length + 20 := by
  have h1 := rspec_LQ h
  have h2 : (body l).length ≤ l.length := by unfold body; split <;> simp
  omega
theorem ratio_Parse_rd (s : ByteArray) (hs : s.size ≤ 16777216) : Ev (fun k => ratio_Parse.f k s) (pR (rd (bs s))) := by
  have h1 := ratio_Parse_ev s (Nat.le_refl _) hs
  rw [specs] at h1
  exact h1
end Go.FK


/- The plain law: the last sign in a text; the letter at its end, the sign at its front. -/
namespace Go.FK

def lastPM (l : List Int) : Nat → Int
  | 0 => -1
  | n + 1 => if nthD 0 l n = 43 ∨ nthD 0 l n = 45 then (n : Int) else lastPM l n
theorem lastPM_succ (l : List Int) (n : Nat) : lastPM l (n + 1) = if nthD 0 l n = 43 ∨ nthD 0 l n = 45 then (n : Int) else lastPM l n := rfl
theorem lastPM_le (l : List Int) : ∀ n, -1 ≤ lastPM l n ∧ lastPM l n < n
  | 0 => ⟨Int.le_refl _, show (-1 : Int) < 0 by decide⟩
  | n + 1 => by
    have := lastPM_le l n
    rw [lastPM_succ]
    split <;> omega

abbrev PM : ByteArray := ByteArray.mk #[43, 45]
theorem PM_contains (x : UInt8) : PM.data.toList.contains x = decide ((x.toNat : Int) = 43 ∨ (x.toNat : Int) = 45) := by
  have h1 : x = 43 ↔ (x.toNat : Int) = 43 := ⟨fun h => by subst h; rfl, fun h => UInt8.toNat_inj.1 (show x.toNat = 43 by omega)⟩
  have h2 : x = 45 ↔ (x.toNat : Int) = 45 := ⟨fun h => by subst h; rfl, fun h => UInt8.toNat_inj.1 (show x.toNat = 45 by omega)⟩
  have e : PM.data.toList = [43, 45] := rfl
  rw [e]
  simp only [List.contains_cons, List.contains_nil, Bool.or_false]
  have e3 : decide ((x.toNat : Int) = 43 ∨ (x.toNat : Int) = 45) = decide (x = 43 ∨ x = 45) := decide_eq_decide.2 (by rw [h1, h2])
  rw [e3, Bool.decide_or]
  rfl
theorem get!_bs (s : ByteArray) {n : Nat} (h : n < s.size) : ((s.get! n).toNat : Int) = nthD 0 (bs s) n := by
  rw [← bs_btI]
  unfold btI
  rw [dif_pos (by simpa using h)]
  have : s.get! n = s[n]'h := getElem!_pos s.data n h
  rw [this]
  rfl
theorem lastAny_PM (s : ByteArray) : ∀ n, n ≤ s.size → lastAny s PM n = lastPM (bs s) n
  | 0, _ => rfl
  | n + 1, h => by
    rw [lastAny_succ, lastPM_succ, lastAny_PM s n (by omega), PM_contains, get!_bs s (by omega)]
    simp

theorem index_PM : ∀ n : Fin 128, Go.Lib.indexByte [43, 45] (n.val.toUInt8) = if (n.val : Int) = 43 then 0 else if (n.val : Int) = 45 then 1 else -1 := by decide +kernel
theorem rune_ev {x : Int} (h : 0 ≤ x ∧ x < 128) : Ev (fun k => strings_IndexRune.f k PM x) (if x = 43 then 0 else if x = 45 then 1 else -1) := by
  unfold strings_IndexRune.f strings_IndexRune.e
  refine Ev.tru (dec_t h.1) (Ev.tru (dec_t h.2) (Ev.bind ?_ Ev.pure))
  unfold strings_IndexByte.f strings_IndexByte.e stringslite_IndexByte.f stringslite_IndexByte.e bytealg_IndexByteString.f
  refine Ev.bind (Ev.bind (Ev.eq ?_) Ev.pure) Ev.pure
  have e : IntKind.u8.wrap x = x := by
    have : IntKind.u8.wrap x = x % 256 := by simp [IntKind.wrap, IntKind.signed, IntKind.bits]
    rw [this]; omega
  rw [e]
  have := index_PM ⟨x.toNat, by omega⟩
  simp only at this
  rw [show ((x.toNat : Nat) : Int) = x by omega] at this
  exact this

theorem wrap_i32 {x : Int} (h : 0 ≤ x ∧ x < 128) : IntKind.i32.wrap x = x := by
  have : IntKind.i32.wrap x = if x % 4294967296 ≥ 2147483648 then x % 4294967296 - 4294967296 else x % 4294967296 := by
    simp [IntKind.wrap, IntKind.signed, IntKind.bits]
  rw [this]
  split <;> omega
theorem declast_ev (s : ByteArray) {n : Nat} (h0 : n + 1 ≤ s.size) (h8 : s.size ≤ 8) (hx : nthD 0 (bs s) n < 128) : Ev (fun k => utf8_DecodeLastRuneInString.f k (s.extract 0 (n + 1))) (nthD 0 (bs s) n, (1 : Int)) := by
  have hsz : (s.extract 0 (n + 1)).size = n + 1 := by rw [ByteArray.size_extract]; omega
  have hb : btI (s.extract 0 (n + 1)) ((n : Nat) : Int) = nthD 0 (bs s) n := by
    rw [bs_btI, bs_extract, List.drop_zero, nthD_eq, nthD_eq, List.getD_eq_getElem?_getD, List.getD_eq_getElem?_getD, List.getElem?_take_of_lt (by omega)]
  have hr : 0 ≤ nthD 0 (bs s) n := by rw [← get!_bs s (by omega)]; omega
  have e1 : IntKind.i64.wrap (((s.extract 0 (n + 1)).size : Int) - 1) = ((n : Nat) : Int) := by rw [hsz, wrap_i64 (by omega) (by omega)]; omega
  unfold utf8_DecodeLastRuneInString.f utf8_DecodeLastRuneInString.e
  rw [e1, hb, wrap_i32 ⟨hr, hx⟩, hsz]
  exact Ev.fls (dec_f (by omega)) (Ev.tru (by simp; omega) (Ev.tru (dec_t hx) Ev.pure))

theorem last_p8 (s : ByteArray) (h8 : s.size ≤ 8) (ha : ∀ x ∈ bs s, x < 128) : ∀ n, n ≤ s.size → Ev (fun k => strings_LastIndexAny.p8 k s PM (n : Int)) (lastPM (bs s) n) := by
  intro n
  induction n with
  | zero =>
    intro _
    refine Ev.turn (fun k => strings_LastIndexAny.p8_succ k _ _ _) ?_
    unfold strings_LastIndexAny.e8
    exact Ev.fls (by simp) Ev.pure
  | succ n ih =>
    intro h
    refine Ev.turn (fun k => strings_LastIndexAny.p8_succ k _ _ _) ?_
    unfold strings_LastIndexAny.e8
    have hx : nthD 0 (bs s) n < 128 := by
      have hl := bs_length s
      rw [nthD_eq, List.getD_eq_getElem?_getD, List.getElem?_eq_getElem (by omega)]
      exact ha _ (List.getElem_mem _)
    have hr : 0 ≤ nthD 0 (bs s) n := by rw [← get!_bs s (by omega)]; omega
    have e : IntKind.i64.wrap (((n + 1 : Nat) : Int) - 1) = (n : Int) := by rw [wrap_i64 (by omega) (by omega)]; omega
    have d := declast_ev s h h8 hx
    refine Ev.tru (dec_t (by omega)) (Ev.tru (by simp; omega) (Ev.bind d (Ev.bind (rune_ev ⟨hr, hx⟩) ?_)))
    simp only [e]
    rw [lastPM_succ]
    by_cases c1 : nthD 0 (bs s) n = 43
    · rw [if_pos c1, if_pos (.inl c1)]; exact Ev.tru (by decide) Ev.pure
    by_cases c2 : nthD 0 (bs s) n = 45
    · rw [if_neg c1, if_pos c2, if_pos (.inr c2)]; exact Ev.tru (by decide) Ev.pure
    rw [if_neg c1, if_neg c2, if_neg (fun h => h.elim c1 c2)]
    exact Ev.fls (by decide) (ih (by omega))

theorem lia_ev (s : ByteArray) (hs : s.size ≤ 16777216) (h : 8 < s.size ∨ ∀ x ∈ bs s, x < 128) : Ev (fun k => strings_LastIndexAny_h.f k s PM) (lastPM (bs s) s.size) := by
  unfold strings_LastIndexAny_h.f lastF
  have hPs : PM.size = 2 := rfl
  have hPa : PM.data.toList.all (fun b => decide (b.toNat < 128)) = true := by decide
  by_cases h8 : 8 < s.size
  · refine Ev.tru ?_ (Ev.eq (lastAny_PM s s.size (Nat.le_refl _)))
    unfold lastC
    rw [hPa, hPs, dec_t h8, dec_t (show s.size < 4294967281 by omega)]
    decide
  have ha := h.resolve_left h8
  refine Ev.fls (by unfold lastC; rw [dec_f h8]; rfl) ?_
  unfold strings_LastIndexAny.f strings_LastIndexAny.e
  refine Ev.fls (by rw [beq_bs]; decide) ?_
  by_cases h1 : s.size = 1
  · have hl := bs_length s
    have hx : nthD 0 (bs s) 0 < 128 := by
      rw [nthD_eq, List.getD_eq_getElem?_getD, List.getElem?_eq_getElem (by omega)]
      exact ha _ (List.getElem_mem _)
    have hr : 0 ≤ nthD 0 (bs s) 0 := by rw [← get!_bs s (by omega)]; omega
    rw [bs_btI0, wrap_i32 ⟨hr, hx⟩]
    refine Ev.tru (dec_t (by omega)) (Ev.tru (dec_t (by omega)) (Ev.fls (dec_f (by omega)) ?_))
    refine Ev.turn (fun k => strings_LastIndexAny.p15_succ k _ _) ?_
    unfold strings_LastIndexAny.e15
    refine Ev.bind (rune_ev ⟨hr, hx⟩) ?_
    rw [h1, lastPM_succ]
    by_cases c1 : nthD 0 (bs s) 0 = 43
    · rw [if_pos c1, if_pos (.inl c1)]; exact Ev.tru (by decide) Ev.pure
    by_cases c2 : nthD 0 (bs s) 0 = 45
    · rw [if_neg c1, if_pos c2, if_pos (.inr c2)]; exact Ev.tru (by decide) Ev.pure
    rw [if_neg c1, if_neg c2, if_neg (fun h => h.elim c1 c2)]
    exact Ev.fls (by decide) Ev.pure
  · refine Ev.fls (dec_f (by omega)) (Ev.bind (?_ : Ev _ false) (Ev.fls rfl (Ev.fls (by rw [hPs]; decide) (last_p8 s (by omega) ha s.size (Nat.le_refl _)))))
    unfold strings_shouldUseASCIISet.f strings_shouldUseASCIISet.e
    exact Ev.eq (dec_f (by omega))

/-! ### At the ends -/
theorem take_one {l : List Int} (h : 0 < l.length) : l.take 1 = [nthD 0 l 0] := by
  have := take_succ_get (a := l) (n := 0) h
  simpa using this
theorem drop_one_end {l : List Int} {n : Nat} (h : n + 1 = l.length) : l.drop n = [nthD 0 l n] := by
  rw [List.drop_eq_getElem_cons (by omega), List.drop_eq_nil_of_le (by omega), nthD_eq, List.getD_eq_getElem?_getD, List.getElem?_eq_getElem (by omega)]
  rfl
theorem suffix_ev (s : ByteArray) (c : UInt8) (hs : s.size ≤ 16777216) : Ev (fun k => strings_CutSuffix.f k s (ByteArray.mk #[c])) (if nthD 0 (bs s) (s.size - 1) = c.toNat ∧ 0 < s.size then (s.extract 0 (s.size - 1), true) else (s, false)) := by
  have hl := bs_length s
  have hsz : (ByteArray.mk #[c]).size = 1 := rfl
  have hw : 0 < s.size → IntKind.i64.wrap ((s.size : Int) - ((ByteArray.mk #[c]).size : Int)) = ((s.size - 1 : Nat) : Int) := fun h => by rw [hsz, wrap_i64 (by omega) (by omega)]; omega
  have hp : Ev (fun k => stringslite_HasSuffix.f k s (ByteArray.mk #[c])) (decide (nthD 0 (bs s) (s.size - 1) = c.toNat ∧ 0 < s.size)) := by
    unfold stringslite_HasSuffix.f stringslite_HasSuffix.e
    by_cases h : 0 < s.size
    · rw [hw h]
      refine Ev.tru (by rw [hsz]; simp; omega) (Ev.tru (by simp) (Ev.eq ?_))
      rw [beq_bs, bs_extract, bs_one, Int.toNat_natCast, Int.toNat_natCast]
      apply decide_eq_decide.2
      have e1 : (bs s).take s.size = bs s := by rw [← hl, List.take_length]
      have e2 : (bs s).drop (s.size - 1) = [nthD 0 (bs s) (s.size - 1)] := by
        rw [drop_one_end (by omega)]
      rw [e1, e2]
      simp [h]
    · refine Ev.fls (by rw [hsz]; simp; omega) (Ev.eq ?_)
      simp [h]
  unfold strings_CutSuffix.f strings_CutSuffix.e
  refine Ev.bind (?_ : Ev (fun k => stringslite_CutSuffix.f k s (ByteArray.mk #[c])) (if nthD 0 (bs s) (s.size - 1) = c.toNat ∧ 0 < s.size then (s.extract 0 (s.size - 1), true) else (s, false))) Ev.pure
  unfold stringslite_CutSuffix.f stringslite_CutSuffix.e
  refine Ev.bind hp ?_
  by_cases h : nthD 0 (bs s) (s.size - 1) = c.toNat ∧ 0 < s.size
  · rw [if_pos h, dec_t h, hw h.2]
    exact Ev.fls rfl (Ev.tru (by simp) (Ev.eq (by simp)))
  · rw [if_neg h, dec_f h]
    exact Ev.tru rfl Ev.pure

theorem trimp_ev (s : ByteArray) (c : UInt8) : Ev (fun k => strings_TrimPrefix.f k s (ByteArray.mk #[c])) (if nthD 0 (bs s) 0 = c.toNat ∧ 0 < s.size then s.extract 1 s.size else s) := by
  have hl := bs_length s
  have hsz : (ByteArray.mk #[c]).size = 1 := rfl
  have hp : Ev (fun k => stringslite_HasPrefix.f k s (ByteArray.mk #[c])) (decide (nthD 0 (bs s) 0 = c.toNat ∧ 0 < s.size)) := by
    unfold stringslite_HasPrefix.f stringslite_HasPrefix.e
    by_cases h : 0 < s.size
    · refine Ev.tru (by rw [hsz]; simp; omega) (Ev.tru (by rw [hsz]; simp; omega) (Ev.eq ?_))
      rw [beq_bs, bs_extract, bs_one, hsz]
      apply decide_eq_decide.2
      have := take_one (l := bs s) (by omega)
      simp [this, h]
    · refine Ev.fls (by rw [hsz]; simp; omega) (Ev.eq ?_)
      simp [h]
  unfold strings_TrimPrefix.f strings_TrimPrefix.e
  refine Ev.bind (?_ : Ev (fun k => stringslite_TrimPrefix.f k s (ByteArray.mk #[c])) (if nthD 0 (bs s) 0 = c.toNat ∧ 0 < s.size then s.extract 1 s.size else s)) Ev.pure
  unfold stringslite_TrimPrefix.f stringslite_TrimPrefix.e
  refine Ev.bind hp ?_
  by_cases h : nthD 0 (bs s) 0 = c.toNat ∧ 0 < s.size
  · rw [if_pos h, dec_t h, hsz]
    exact Ev.tru rfl (Ev.tru (by simp; omega) (Ev.eq (by simp)))
  · rw [if_neg h, dec_f h]
    exact Ev.fls rfl Ev.pure

end Go.FK


/- The plain law of Delta: what Parse reads; Back. -/
namespace Go.FK

/-! ### A number's letters -/
def tb (p q : Rat) : List Int :=
  if q.num.sign = 1 then qb p ++ (43 :: (qb q ++ [100])) else if q.num.sign = -1 then qb p ++ (qb q ++ [100]) else qb p
theorem bs_dtxt (p q : Rat) : bs (dtxt5 p q) = tb p q := by
  have e1 : bs (ByteArray.mk #[43]) = [43] := rfl
  have e2 : bs (ByteArray.mk #[100]) = [100] := rfl
  unfold dtxt5 tb
  split
  · rw [bs_append, bs_append, bs_append, bs_qtxt, bs_qtxt, e1, e2, List.append_assoc]; rfl
  · split
    · rw [bs_append, bs_append, bs_qtxt, bs_qtxt, e2]
    · exact bs_qtxt p

theorem dd_mem {n : Nat} {x : Int} (h : x ∈ dd n) : 48 ≤ x ∧ x ≤ 57 := dgt_range (List.all_eq_true.1 (dd_all n) x h)
theorem qb_mem {q : Rat} {x : Int} (h : x ∈ qb q) : (x = 45 ∧ q.num < 0) ∨ x = 47 ∨ (48 ≤ x ∧ x ≤ 57) := by
  unfold qb at h
  rcases List.mem_append.1 h with h | h
  · split at h
    · rename_i hn; exact .inl ⟨by simpa using h, hn⟩
    · cases h
  · rcases List.mem_append.1 h with h | h
    · exact .inr (.inr (dd_mem h))
    · split at h
      · cases h
      · rcases List.mem_cons.1 h with h | h
        · exact .inr (.inl h)
        · exact .inr (.inr (dd_mem h))
theorem qb_ne (q : Rat) : qb q ≠ [] := by
  have := dd_ne q.num.natAbs
  unfold qb
  intro h
  simp only [List.append_eq_nil_iff] at h
  exact this h.2.1
theorem qb_length (q : Rat) : (qb q).length ≤ 10 * LQ q + 4 := by
  have h1 := dd_size q.num.natAbs
  have h2 := dd_size q.den
  have h3 : LQ q = L q.num.natAbs + L q.den := rfl
  unfold qb
  simp only [List.length_append]
  split <;> split <;> simp only [List.length_cons, List.length_nil] <;> omega
theorem qb_neg {q : Rat} (h : q.num < 0) : qb q = 45 :: qb (-q) := by
  have e1 : (-q).num = -q.num := Rat.neg_num q
  have e2 : (-q).den = q.den := Rat.neg_den q
  unfold qb
  rw [if_pos h, e1, e2, if_neg (show ¬ (-q.num < 0) by omega), Int.natAbs_neg]
  rfl
theorem nthD_mem {l : List Int} {i : Nat} (h : i < l.length) : nthD 0 l i ∈ l := by
  rw [nthD_eq, List.getD_eq_getElem?_getD, List.getElem?_eq_getElem h]
  exact List.getElem_mem _

/-- The text of a number with a second part: the first part, a sign, and the second's size. -/
theorem tb_sign {p q : Rat} (h : q ≠ 0) : ∃ c B, (c = 43 ∨ c = 45) ∧ tb p q = qb p ++ c :: (B ++ [100]) ∧ (∀ x ∈ B, x ≠ 43 ∧ x ≠ 45) ∧ B = qb (if c = 45 then -q else q) ∧ (c = 43 → 0 < q.num) ∧ (c = 45 → q.num < 0) := by
  have h0 : q.num.sign ≠ 0 := fun e => h (num_sign_zero.1 e)
  unfold tb
  by_cases h1 : q.num.sign = 1
  · have hp : 0 < q.num := Int.pos_of_sign_eq_one h1
    rw [if_pos h1]
    refine ⟨43, qb q, .inl rfl, rfl, fun x hx => ?_, by rw [if_neg (by decide)], fun _ => hp, fun e => absurd e (by decide)⟩
    rcases qb_mem hx with h2 | h2 | h2 <;> omega
  · have h2 : q.num.sign = -1 := by have := sign_cases q.num; omega
    have hn : q.num < 0 := Int.neg_of_sign_eq_neg_one h2
    rw [if_neg h1, if_pos h2, qb_neg hn]
    refine ⟨45, qb (-q), .inr rfl, rfl, fun x hx => ?_, by rw [if_pos rfl], fun e => absurd e (by decide), fun _ => hn⟩
    have e1 : (-q).num = -q.num := Rat.neg_num q
    rcases qb_mem hx with h3 | h3 | h3 <;> omega
theorem tb_zero (p : Rat) : tb p 0 = qb p := by
  unfold tb
  rw [if_neg (by decide), if_neg (by decide)]
theorem tb_mem {p q : Rat} {x : Int} (h : x ∈ tb p q) : x < 128 := by
  have hq : ∀ {q : Rat}, x ∈ qb q → x < 128 := fun {q} h => by rcases qb_mem h with h | h | h <;> omega
  unfold tb at h
  split at h
  · simp only [List.mem_append, List.mem_cons, List.not_mem_nil, or_false] at h
    rcases h with h | h | h | h
    · exact hq h
    · omega
    · exact hq h
    · omega
  · split at h
    · simp only [List.mem_append, List.mem_cons, List.not_mem_nil, or_false] at h
      rcases h with h | h | h
      · exact hq h
      · exact hq h
      · omega
    · exact hq h
theorem tb_length (p q : Rat) : (tb p q).length ≤ 10 * (LQ p + LQ q) + 10 := by
  have h1 := qb_length p
  have h2 := qb_length q
  unfold tb
  split
  · simp only [List.length_append, List.length_cons, List.length_nil]; omega
  · split
    · simp only [List.length_append, List.length_cons, List.length_nil]; omega
    · omega

/-! ### What the program reads -/
def ptrim (l : List Int) : List Int := if nthD 0 l 0 = 43 ∧ 0 < l.length then l.drop 1 else l
def cutd (l : List Int) : Option (List Int × List Int) :=
  if nthD 0 l (l.length - 1) = 100 ∧ 0 < l.length then
    (if lastPM (l.take (l.length - 1)) (l.length - 1) < 0 then none
    else some ((l.take (l.length - 1)).take (lastPM (l.take (l.length - 1)) (l.length - 1)).toNat, ptrim ((l.take (l.length - 1)).drop (lastPM (l.take (l.length - 1)) (l.length - 1)).toNat)))
  else some (l, [])
def pfin (l a b : List Int) : Option (Rat × Rat) := match rd a, (if b = [] then some 0 else rd b) with
  | some p, some q => if tb p q = l then some (p, q) else none
  | _, _ => none
def pd (l : List Int) : Option (Rat × Rat) := match cutd l with
  | some (a, b) => pfin l a b
  | none => none
def dR : Option (Rat × Rat) → DD × Int
  | some (p, q) => (dlt p q, 0)
  | none => (noDelta, 50)

theorem pfin_sound {l a b : List Int} {p q : Rat} (h : pfin l a b = some (p, q)) : l = tb p q := by
  unfold pfin at h
  split at h
  · split at h
    · rename_i h2
      simp only [Option.some.injEq, Prod.mk.injEq] at h
      obtain ⟨rfl, rfl⟩ := h
      exact h2.symm
    · cases h
  · cases h
theorem pd_sound {l : List Int} {p q : Rat} (h : pd l = some (p, q)) : l = tb p q := by
  unfold pd at h
  split at h
  · exact pfin_sound h
  · cases h

theorem nthD_append_right (A B : List Int) (j : Nat) : nthD 0 (A ++ B) (A.length + j) = nthD 0 B j := by
  rw [nthD_eq, nthD_eq, List.getD_eq_getElem?_getD, List.getD_eq_getElem?_getD, List.getElem?_append_right (by omega)]
  congr 2; omega
theorem lastPM_at (A B : List Int) (c : Int) (hc : c = 43 ∨ c = 45) (hB : ∀ x ∈ B, x ≠ 43 ∧ x ≠ 45) : ∀ j, j ≤ B.length → lastPM (A ++ c :: B) (A.length + 1 + j) = A.length
  | 0, _ => by
    rw [Nat.add_zero, lastPM_succ]
    have := nthD_append_right A (c :: B) 0
    rw [Nat.add_zero] at this
    rw [this]
    exact if_pos hc
  | j + 1, h => by
    rw [← Nat.add_assoc, lastPM_succ, lastPM_at A B c hc hB j (by omega)]
    have := nthD_append_right A (c :: B) (j + 1)
    rw [← Nat.add_assoc] at this
    rw [show A.length + 1 + j = A.length + j + 1 by omega, this]
    have hm := hB _ (nthD_mem (l := B) (i := j) (by omega))
    rw [if_neg (fun h => h.elim hm.1 hm.2)]
theorem cutd_sign (A B : List Int) (c : Int) (hc : c = 43 ∨ c = 45) (hB : ∀ x ∈ B, x ≠ 43 ∧ x ≠ 45) : cutd (A ++ c :: (B ++ [100])) = some (A, ptrim (c :: B)) := by
  have e : A ++ c :: (B ++ [100]) = (A ++ c :: B) ++ [100] := by simp
  have hX : (A ++ c :: B).length = A.length + 1 + B.length := by simp; omega
  rw [e]
  generalize hx : A ++ c :: B = X at *
  have hl : (X ++ [100]).length - 1 = X.length := by simp
  have h1 : nthD 0 (X ++ [100]) ((X ++ [100]).length - 1) = 100 := by
    rw [hl]
    have := nthD_append_right X [100] 0
    rw [Nat.add_zero] at this
    rw [this]; rfl
  have h2 : (X ++ [100]).take ((X ++ [100]).length - 1) = X := by rw [hl]; simp
  have h3 : lastPM X X.length = A.length := by
    rw [hX, ← hx]
    exact lastPM_at A B c hc hB B.length (Nat.le_refl _)
  unfold cutd
  rw [if_pos ⟨h1, by simp⟩, h2, hl, h3, if_neg (by omega), Int.toNat_natCast, ← hx]
  simp
theorem pd_text (p q : Rat) : pd (tb p q) = some (p, q) := by
  by_cases h : q = 0
  · subst h
    have hc : cutd (tb p 0) = some (qb p, []) := by
      rw [tb_zero]
      unfold cutd
      rw [if_neg]
      intro h1
      have h2 := nthD_mem (l := qb p) (i := (qb p).length - 1) (by omega)
      rw [h1.1] at h2
      rcases qb_mem h2 with h3 | h3 | h3 <;> omega
    unfold pd
    rw [hc]
    unfold pfin
    simp only [rd_qb, if_true]
  · obtain ⟨c, B, hc, hl, hB, hBq, hp, hn⟩ := tb_sign (p := p) h
    unfold pd
    rw [hl, cutd_sign _ _ _ hc hB]
    have hr : ptrim (c :: B) ≠ [] ∧ rd (ptrim (c :: B)) = some q := by
      rcases hc with hc | hc
      · subst hc
        have e : ptrim (43 :: B) = B := by unfold ptrim; rw [if_pos ⟨rfl, by simp⟩]; rfl
        rw [e, hBq, if_neg (by decide)]
        exact ⟨qb_ne q, rd_qb q⟩
      · subst hc
        have e : ptrim (45 :: B) = 45 :: B := by unfold ptrim; rw [if_neg (fun h => absurd h.1 (by show (45 : Int) ≠ 43; decide))]
        rw [e, hBq, if_pos rfl, ← qb_neg (hn rfl)]
        exact ⟨qb_ne q, rd_qb q⟩
    rw [← hl]
    unfold pfin
    simp only [rd_qb, if_neg hr.1, hr.2, if_true]

/-! ### The program's Parse -/
theorem parse_p35 (s : ByteArray) (w : DD) {M : Nat} {d : DD} {p q : Rat} (h : Dt M d p q) (a1 : LQ p ≤ M) (a2 : LQ q ≤ M) (h1 : 1 ≤ M) (hM : M ≤ 90000000) : Ev (fun k => delta_Parse.p35 k w d s) (dR (if tb p q = bs s then some (p, q) else none)) := by
  refine Ev.turn (fun k => delta_Parse.p35_succ k _ _ _) ?_
  unfold delta_Parse.e35
  refine Ev.bind (h.norm (by omega)) (Ev.bind ((Dt.of a1 a2).text (by omega) (by omega)) ?_)
  rw [beq_bs, bs_dtxt]
  by_cases hc : tb p q = bs s
  · rw [dec_t hc, if_pos hc]; exact Ev.fls rfl Ev.pure
  · rw [dec_f hc, if_neg hc]; exact Ev.tru rfl Ev.pure

theorem parse_p19 (s x y : ByteArray) (w : DD) (hx : x.size ≤ 16777216) (hy : y.size ≤ 16777216) : Ev (fun k => delta_Parse.p19 k w noDelta s x y) (dR (pfin (bs s) (bs x) (bs y))) := by
  refine Ev.turn (fun k => delta_Parse.p19_succ k _ _ _ _ _) ?_
  unfold delta_Parse.e19
  have l1 := bs_length x
  have l2 := bs_length y
  refine Ev.bind (ratio_Parse_rd x (by omega)) ?_
  unfold pfin
  cases h1 : rd (bs x) with
  | none => exact Ev.tru (by simp [pR]) Ev.pure
  | some p =>
    have b1 := rd_LQ h1
    refine Ev.fls (by simp [pR]) ?_
    have e0 : bs (ByteArray.mk #[]) = [] := rfl
    rw [beq_bs, e0]
    by_cases hb : bs y = []
    · rw [dec_t hb, if_pos hb]
      exact Ev.fls rfl (parse_p35 s _ (M := 90000000) (d := (rat p, noRat)) (p := p) (q := 0) ⟨Rt.of (by omega), noRat_rt.mono (by omega)⟩ (by omega) (by rw [LQ_zero]; omega) (by omega) (by omega))
    · rw [dec_f hb, if_neg hb]
      refine Ev.tru rfl (Ev.bind (ratio_Parse_rd y (by omega)) ?_)
      cases h2 : rd (bs y) with
      | none => exact Ev.tru (by simp [pR]) Ev.pure
      | some q =>
        have b2 := rd_LQ h2
        exact Ev.fls (by simp [pR]) (parse_p35 s _ (M := 90000000) (d := (rat p, rat q)) (p := p) (q := q) ⟨Rt.of (by omega), Rt.of (by omega)⟩ (by omega) (by omega) (by omega) (by omega))

theorem delta_Parse_ev (s : ByteArray) (hs : s.size ≤ 16777216) (h : 9 < s.size ∨ ∀ x ∈ bs s, x < 128) : Ev (fun k => delta_Parse.f k s) (dR (pd (bs s))) := by
  have hl := bs_length s
  unfold delta_Parse.f delta_Parse.e pd cutd
  rw [hl]
  refine Ev.bind (suffix_ev s 100 (by omega)) ?_
  have e100 : ((100 : UInt8).toNat : Int) = 100 := rfl
  rw [e100]
  by_cases c : nthD 0 (bs s) (s.size - 1) = 100 ∧ 0 < s.size
  · rw [if_pos c, if_pos c]
    have hr : bs (s.extract 0 (s.size - 1)) = (bs s).take (s.size - 1) := by rw [bs_extract, List.drop_zero]
    have hz : (s.extract 0 (s.size - 1)).size = s.size - 1 := by rw [ByteArray.size_extract]; omega
    have hli := lia_ev (s.extract 0 (s.size - 1)) (by omega) (by
      rcases h with h | h
      · exact .inl (by omega)
      · exact .inr fun x hx => h x (List.mem_of_mem_take (hr ▸ hx)))
    rw [hz, hr] at hli
    refine Ev.tru rfl (Ev.bind hli ?_)
    have hle := lastPM_le ((bs s).take (s.size - 1)) (s.size - 1)
    generalize hat : lastPM ((bs s).take (s.size - 1)) (s.size - 1) = a at *
    by_cases ha : a < 0
    · rw [if_pos ha]
      exact Ev.tru (dec_t ha) Ev.pure
    · rw [if_neg ha]
      have et := trimp_ev ((s.extract 0 (s.size - 1)).extract a.toNat (s.size - 1)) 43
      have e43 : ((43 : UInt8).toNat : Int) = 43 := rfl
      rw [e43] at et
      refine Ev.fls (dec_f ha) (Ev.tru (by simp only [hz]; simp; omega) (Ev.tru (by simp only [hz]; simp; omega) ?_))
      simp only [hz, Int.toNat_natCast, Int.toNat_zero]
      refine Ev.bind et ?_
      have hy : bs ((s.extract 0 (s.size - 1)).extract a.toNat (s.size - 1)) = ((bs s).take (s.size - 1)).drop a.toNat := by
        rw [bs_extract, hr, List.take_take, Nat.min_self]
      have hp := parse_p19 s ((s.extract 0 (s.size - 1)).extract 0 a.toNat) (if nthD 0 (bs ((s.extract 0 (s.size - 1)).extract a.toNat (s.size - 1))) 0 = 43 ∧ 0 < ((s.extract 0 (s.size - 1)).extract a.toNat (s.size - 1)).size then ((s.extract 0 (s.size - 1)).extract a.toNat (s.size - 1)).extract 1 ((s.extract 0 (s.size - 1)).extract a.toNat (s.size - 1)).size else ((s.extract 0 (s.size - 1)).extract a.toNat (s.size - 1))) noDelta (by rw [ByteArray.size_extract]; omega) (by
        split
        · rw [ByteArray.size_extract, ByteArray.size_extract]; omega
        · rw [ByteArray.size_extract]; omega)
      have f1 : bs ((s.extract 0 (s.size - 1)).extract 0 a.toNat) = ((bs s).take (s.size - 1)).take a.toNat := by rw [bs_extract, hr, List.drop_zero]
      have f2 : bs (if nthD 0 (bs ((s.extract 0 (s.size - 1)).extract a.toNat (s.size - 1))) 0 = 43 ∧ 0 < ((s.extract 0 (s.size - 1)).extract a.toNat (s.size - 1)).size then ((s.extract 0 (s.size - 1)).extract a.toNat (s.size - 1)).extract 1 ((s.extract 0 (s.size - 1)).extract a.toNat (s.size - 1)).size else ((s.extract 0 (s.size - 1)).extract a.toNat (s.size - 1))) = ptrim (((bs s).take (s.size - 1)).drop a.toNat) := by
        rw [← hy]
        generalize (s.extract 0 (s.size - 1)).extract a.toNat (s.size - 1) = t
        have ht := bs_length t
        unfold ptrim
        rw [ht]
        split
        · rw [bs_extract, ← ht, List.take_length]
        · rfl
      rw [f1, f2] at hp
      exact hp
  · rw [if_neg c, if_neg c]
    have hp := parse_p19 s s (ByteArray.mk #[]) noDelta (by omega) (by decide)
    exact Ev.fls rfl hp

end Go.FK


/- The plain law of Delta: Back. -/
namespace Go.FK

theorem Qv_LQ {M : Nat} {r : RR} {q : Rat} (h : Rt M r q) : LQ q ≤ r.1.2.length + r.2.length + 1 := by
  have h1 : Zt r.1.2.length r.1 (Zv r.1) := ⟨h.num, rfl, Nat.le_refl _⟩
  have h2 : Nt r.2.length r.2 (V r.2).toNat := ⟨h.den, (V_norm_lim h.den).2.symm, Nat.le_refl _⟩
  have h3 : Rt (max r.1.2.length r.2.length) (r.1, r.2) (mkRat (Zv r.1) (V r.2).toNat) := Rt.mk2 (h1.mono (by omega)) (h2.mono (by omega))
  have h4 : mkRat (Zv r.1) (V r.2).toNat = q := h3.val.symm.trans h.val
  have := LQ_mkRat (Zv r.1) (V r.2).toNat
  have l1 := h1.LZ
  have l2 := h2.L
  rw [h4] at this
  omega

theorem dback_ev {M : Nat} {d : DD} {p q : Rat} (h : Dt M d p q) (h1 : 1 ≤ M) (hM : M ≤ 1048576) (hN : LQ p + LQ q ≤ 1600000) : Ev (fun k => law05_DeltaBack.f k d) true := by
  have n1 := h.a.nlen
  have n2 := h.a.dlen
  have n3 := h.b.nlen
  have n4 := h.b.dlen
  have hs : (dtxt5 p q).size ≤ 16777216 := by
    have := tb_length p q
    rw [← bs_length, bs_dtxt]; omega
  have hp := delta_Parse_ev (dtxt5 p q) hs (.inr fun x hx => tb_mem (bs_dtxt p q ▸ hx))
  rw [bs_dtxt, pd_text] at hp
  unfold law05_DeltaBack.f law05_DeltaBack.e
  exact Ev.bind (within5_ev (by omega)) (Ev.bind (h.twin (by omega)) (Ev.bind (h.text h1 (by omega)) (Ev.bind hp (Ev.bind lives_ev (Ev.tru rfl (Ev.tru (by simp [dR]) (Ev.bind (h.twin (by omega)) (Ev.bind (h.norm (by omega)) (Ev.bind (same5 (M := 1600000) (by omega) (by omega) (by omega)) Ev.pure)))))))))

theorem dback_math (x : TD [tyDelta]) (hw : wfDs (encT [tyDelta] x)) (hm : massDs (encT [tyDelta] x) ≤ 1048576) : ∃ k, law05_DeltaBack.f k x = some true := by
  obtain ⟨h1, _⟩ := hw
  have hm' : tyDelta.mass x + 0 ≤ 1048576 := hm
  have hd := delta_dt (d := x) h1 (M := 1048576) (by omega)
  have e1 : tyDelta.mass x = tyRat.mass x.1 + tyRat.mass x.2 := rfl
  have e2 : tyRat.mass x.1 = (1 + tyNat.mass x.1.1.2) + tyNat.mass x.1.2 := rfl
  have e3 : tyRat.mass x.2 = (1 + tyNat.mass x.2.1.2) + tyNat.mass x.2.2 := rfl
  rw [nat_mass, nat_mass] at e2 e3
  have q1 := Qv_LQ hd.a
  have q2 := Qv_LQ hd.b
  exact (dback_ev hd (by omega) (by omega) (by omega)).some

end Go.FK
