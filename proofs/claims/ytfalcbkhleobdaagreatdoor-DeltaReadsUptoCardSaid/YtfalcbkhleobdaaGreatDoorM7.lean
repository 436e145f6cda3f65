import Derived.Test.YtfalcbkhleobdaaGreatDoorM5
import Derived.Test.YtfalcbkhleobdaaGreatDoorM6

/- The plain law: a number's text, read again. -/
namespace Go.FK

theorem bs_append (a b : ByteArray) : bs (a ++ b) = bs a ++ bs b := by
  unfold bs
  rw [ByteArray.data_append, Array.toList_append, List.map_append]
/-! ### Digits -/
theorem chr_eq : ∀ n : Nat, n < 10 → chr n = 48 + (n : Int) := by decide +kernel
theorem bs_push (s : ByteArray) (c : UInt8) : bs (s.push c) = bs s ++ [(c.toNat : Int)] := by
  unfold bs
  rw [ByteArray.data_push, Array.toList_push, List.map_append]
  rfl
theorem bs_ofB_from : ∀ (l : List Int) (s : ByteArray), (∀ x ∈ l, 0 ≤ x ∧ x < 256) → bs (l.foldl (fun s n => s.push (UInt8.ofNat n.toNat)) s) = bs s ++ l
  | [], s, _ => by simp
  | x :: xs, s, h => by
    have hx := h x (by simp)
    rw [List.foldl_cons, bs_ofB_from xs _ (fun y hy => h y (by simp [hy])), bs_push]
    have : ((UInt8.ofNat x.toNat).toNat : Int) = x := by
      rw [UInt8.toNat_ofNat']
      have : x.toNat % 2 ^ 8 = x.toNat := Nat.mod_eq_of_lt (by omega)
      rw [this]; omega
    rw [this, List.append_assoc]
    rfl
theorem bs_ofB {l : List Int} (h : ∀ x ∈ l, 0 ≤ x ∧ x < 256) : bs (ofB l) = l := by
  unfold ofB
  rw [bs_ofB_from l _ h]
  rfl
theorem dg_mem (n : Nat) : ∀ x ∈ dg n, dgt x = true := by
  induction n using Nat.strongRecOn with
  | _ n ih =>
    intro x hx
    by_cases h : n = 0
    · rw [h, dg_zero] at hx; cases hx
    · rw [dg_pos h] at hx
      rcases List.mem_cons.1 hx with hx | hx
      · subst hx
        rw [chr_eq _ (Nat.mod_lt _ (by omega))]
        unfold dgt
        have := Nat.mod_lt n (by omega : 0 < 10)
        simp; omega
      · exact ih _ (by omega) x hx
/-- The digits, the highest first. -/
def dd (n : Nat) : List Int := if n = 0 then [48] else (dg n).reverse
theorem dgt_range {x : Int} (h : dgt x = true) : 48 ≤ x ∧ x ≤ 57 := by
  unfold dgt at h
  simpa using h
theorem bs_txt (n : Nat) : bs (txt n) = dd n := by
  unfold txt fin dd
  by_cases h : n = 0
  · subst h
    rw [dg_zero, if_pos rfl, if_pos rfl]
    rfl
  · have : dg n ≠ [] := by rw [dg_pos h]; simp
    rw [if_neg this, if_neg h]
    exact bs_ofB fun x hx => by
      have := dgt_range (dg_mem n x (by simpa using hx))
      omega
theorem dd_snoc (n : Nat) : ∃ l, dd n = l ++ [48 + ((n % 10 : Nat) : Int)] ∧ (l = [] ∨ l = dd (n / 10)) := by
  by_cases h : n = 0
  · subst h
    exact ⟨[], rfl, .inl rfl⟩
  · unfold dd
    rw [if_neg h, dg_pos h, List.reverse_cons, chr_eq _ (Nat.mod_lt _ (by omega))]
    refine ⟨_, rfl, ?_⟩
    by_cases h1 : n / 10 = 0
    · left; rw [h1, dg_zero]; rfl
    · right; rw [if_neg h1]
theorem dd_all (n : Nat) : (dd n).all dgt = true := by
  rw [List.all_eq_true]
  intro x hx
  unfold dd at hx
  split at hx
  · simp only [List.mem_singleton] at hx; subst hx; decide
  · exact dg_mem n x (by simpa using hx)
theorem dd_val : ∀ n : Nat, dval (dd n) = n := by
  intro n
  induction n using Nat.strongRecOn with
  | _ n ih =>
    by_cases h : n = 0
    · subst h; decide
    · unfold dd
      rw [if_neg h, dg_pos h, List.reverse_cons, dval_snoc, chr_eq _ (Nat.mod_lt _ (by omega))]
      by_cases h1 : n / 10 = 0
      · rw [h1, dg_zero]
        show 0 * 10 + _ = _
        omega
      · have := ih (n / 10) (by omega)
        unfold dd at this
        rw [if_neg h1] at this
        rw [this]
        omega
theorem dd_ne (n : Nat) : dd n ≠ [] := by
  obtain ⟨l, h, _⟩ := dd_snoc n
  rw [h]; simp
/-- No nought at the front of a longer one. -/
theorem dd_head : ∀ n : Nat, 0 < n → nthD 0 (dd n) 0 ≠ 48 := by
  intro n
  induction n using Nat.strongRecOn with
  | _ n ih =>
    intro hn
    obtain ⟨l, h, hl⟩ := dd_snoc n
    by_cases h1 : n / 10 = 0
    · unfold dd
      rw [if_neg (by omega), dg_pos (by omega), h1, dg_zero, chr_eq _ (Nat.mod_lt _ (by omega))]
      show (48 + ((n % 10 : Nat) : Int)) ≠ 48
      omega
    · have h2 := ih (n / 10) (by omega) (by omega)
      have e : dd n = dd (n / 10) ++ [48 + ((n % 10 : Nat) : Int)] := by
        unfold dd
        rw [if_neg (by omega), if_neg h1, dg_pos (by omega), List.reverse_cons, chr_eq _ (Nat.mod_lt _ (by omega))]
      rw [e]
      have hne := dd_ne (n / 10)
      cases hd : dd (n / 10) with
      | nil => exact absurd hd hne
      | cons x xs => rw [hd] at h2; exact h2
theorem dd_zero_head {n : Nat} (h : 1 < (dd n).length) : nthD 0 (dd n) 0 ≠ 48 := by
  by_cases hn : n = 0
  · subst hn; simp [dd] at h
  · exact dd_head n (by omega)
theorem pn_dd (n : Nat) : pn (dd n) = some n := by
  unfold pn
  rw [if_neg (fun h => by
    rcases h with h | h
    · exact dd_ne n h
    · exact dd_zero_head h.1 h.2), if_pos (dd_all n), dd_val]

theorem dd_length10 : ∀ (t n : Nat), n < 10 ^ t → (dg n).length ≤ t := by
  intro t
  induction t with
  | zero => intro n hn; obtain rfl : n = 0 := by simpa using hn
            rw [dg_zero]; simp
  | succ t ih =>
    intro n hn
    by_cases h : n = 0
    · subst h; rw [dg_zero]; simp
    · have := ih (n / 10) (by rw [Nat.pow_succ] at hn; omega)
      rw [dg_pos h, List.length_cons]; omega
theorem dd_size (n : Nat) : (dd n).length ≤ 10 * L n + 1 := by
  unfold dd
  split
  · simp
  · rw [List.length_reverse]
    have h1 := L_lt n
    have h2 : 4294967296 ^ L n ≤ (10 ^ 10) ^ L n := Nat.pow_le_pow_left (by decide) _
    rw [← Nat.pow_mul] at h2
    have := dd_length10 (10 * L n) n (by omega)
    omega

/-! ### A ratio's text -/
def qb (q : Rat) : List Int := (if q.num < 0 then [45] else []) ++ (dd q.num.natAbs ++ (if q.den = 1 then [] else 47 :: dd q.den))
theorem bs_qtxt (q : Rat) : bs (qtxt q) = qb q := by
  have e1 : bs (ByteArray.mk #[45]) = [45] := rfl
  have e2 : bs (ByteArray.mk #[47]) = [47] := rfl
  have hw : bs (wtxt q.num) = (if q.num < 0 then [45] else []) ++ dd q.num.natAbs := by
    unfold wtxt
    split
    · rw [bs_append, bs_txt, e1]
    · rw [bs_txt]; rfl
  unfold qtxt qb
  split
  · rw [hw, List.append_nil]
  · rw [bs_append, bs_append, bs_txt, hw, e2, List.append_assoc]; rfl

def rd (l : List Int) : Option Rat := rspec (sgn0 l) (body l)
theorem rspec_digits (neg : Bool) (n d : Nat) (hd : d ≠ 0) : rspec neg (dd n ++ (if d = 1 then [] else 47 :: dd d)) = some (mkRat (sg neg n) d) := by
  unfold rspec
  by_cases h1 : d = 1
  · subst h1
    rw [if_pos rfl, List.append_nil, (takeWhile_all (dd_all n)).1, (takeWhile_all (dd_all n)).2, pn_dd]
  · rw [if_neg h1]
    have h := takeWhile_append (m := dd d) d47 (dd_all n)
    rw [h.1, h.2, pn_dd]
    simp only [if_true, pn_dd, if_neg hd]
theorem dd_not45 (n : Nat) (t : List Int) : nthD 0 (dd n ++ t) 0 ≠ 45 := by
  have h1 := dd_ne n
  have h2 := dd_all n
  cases hd : dd n with
  | nil => exact absurd hd h1
  | cons x xs =>
    rw [hd, List.all_cons, Bool.and_eq_true] at h2
    have := dgt_range h2.1
    show x ≠ 45
    omega
theorem rd_qb (q : Rat) : rd (qb q) = some q := by
  have hd : q.den ≠ 0 := q.den_nz
  unfold rd qb sgn0 body
  by_cases hn : q.num < 0
  · rw [if_pos hn]
    have c : nthD 0 ([45] ++ (dd q.num.natAbs ++ (if q.den = 1 then [] else 47 :: dd q.den))) 0 = 45 ∧ 0 < ([45] ++ (dd q.num.natAbs ++ (if q.den = 1 then [] else 47 :: dd q.den))).length := ⟨rfl, by simp⟩
    unfold sgn0
    rw [dec_t c, if_pos rfl]
    show rspec true (dd q.num.natAbs ++ _) = _
    rw [rspec_digits _ _ _ hd]
    have : sg true q.num.natAbs = q.num := by unfold sg; rw [if_pos rfl]; omega
    rw [this, Rat.mkRat_self]
  · rw [if_neg hn, List.nil_append]
    have c : ¬ (nthD 0 (dd q.num.natAbs ++ (if q.den = 1 then [] else 47 :: dd q.den)) 0 = 45 ∧ 0 < (dd q.num.natAbs ++ (if q.den = 1 then [] else 47 :: dd q.den)).length) := fun h => dd_not45 _ _ h.1
    unfold sgn0
    rw [dec_f c, if_neg (by simp), rspec_digits _ _ _ hd]
    have : sg false q.num.natAbs = q.num := by unfold sg; rw [if_neg (by simp)]; omega
    rw [this, Rat.mkRat_self]
theorem rd_qtxt (q : Rat) : rd (bs (qtxt q)) = some q := by rw [bs_qtxt]; exact rd_qb q
theorem rd_LQ {l : List Int} {q : Rat} (h : rd l = some q) : LQ q ≤ 5 * l.length + 20 := by
  have h1 := rspec_LQ h
  have h2 : (body l).length ≤ l.length := by unfold body; split <;> simp
  omega
theorem ratio_Parse_rd (s : ByteArray) (hs : s.size ≤ 16777216) : Ev (fun k => ratio_Parse.f k s) (pR (rd (bs s))) := by
  have h1 := ratio_Parse_ev s (Nat.le_refl _) hs
  rw [specs] at h1
  exact h1
theorem ref03_Parse_rd (s : ByteArray) (hs : s.size ≤ 16777216) : Ev (fun k => ref03_Parse.f k s) (pR (rd (bs s))) := ref03_Parse_ev s (Nat.le_refl _) hs

end Go.FK

/- The plain law: the last sign in a text; the letter at its end, the sign at its front. -/
namespace Go.FK

def lastPM (l : List Int) : Nat → Int
  | 0 => -1
  | n + 1 => if nthD 0 l n = 43 ∨ nthD 0 l n = 45 then (n : Int) else lastPM l n
theorem lastPM_succ (l : List Int) (n : Nat) : lastPM l (n + 1) = if nthD 0 l n = 43 ∨ nthD 0 l n = 45 then (n : Int) else lastPM l n := rfl
theorem lastPM_le (l : List Int) : ∀ n, -1 ≤ lastPM l n ∧ lastPM l n < n
  | 0 => ⟨Int.le_refl _, show (-1 : Int) < 0 by decide⟩
  | n + 1 => by
    have := lastPM_le l n
    rw [lastPM_succ]
    split <;> omega

abbrev PM : ByteArray := ByteArray.mk #[43, 45]
theorem PM_contains (x : UInt8) : PM.data.toList.contains x = decide ((x.toNat : Int) = 43 ∨ (x.toNat : Int) = 45) := by
  have h1 : x = 43 ↔ (x.toNat : Int) = 43 := ⟨fun h => by subst h; rfl, fun h => UInt8.toNat_inj.1 (show x.toNat = 43 by omega)⟩
  have h2 : x = 45 ↔ (x.toNat : Int) = 45 := ⟨fun h => by subst h; rfl, fun h => UInt8.toNat_inj.1 (show x.toNat = 45 by omega)⟩
  have e : PM.data.toList = [43, 45] := rfl
  rw [e]
  simp only [List.contains_cons, List.contains_nil, Bool.or_false]
  have e3 : decide ((x.toNat : Int) = 43 ∨ (x.toNat : Int) = 45) = decide (x = 43 ∨ x = 45) := decide_eq_decide.2 (by rw [h1, h2])
  rw [e3, Bool.decide_or]
  rfl
theorem get!_bs (s : ByteArray) {n : Nat} (h : n < s.size) : ((s.get! n).toNat : Int) = nthD 0 (bs s) n := by
  rw [← bs_btI]
  unfold btI
  rw [dif_pos (by simpa using h)]
  have : s.get! n = s[n]'h := getElem!_pos s.data n h
  rw [this]
  rfl
theorem lastAny_PM (s : ByteArray) : ∀ n, n ≤ s.size → lastAny s PM n = lastPM (bs s) n
  | 0, _ => rfl
  | n + 1, h => by
    rw [lastAny_succ, lastPM_succ, lastAny_PM s n (by omega), PM_contains, get!_bs s (by omega)]
    simp

theorem index_PM : ∀ n : Fin 128, Go.Lib.indexByte [43, 45] (n.val.toUInt8) = if (n.val : Int) = 43 then 0 else if (n.val : Int) = 45 then 1 else -1 := by decide +kernel
theorem rune_ev {x : Int} (h : 0 ≤ x ∧ x < 128) : Ev (fun k => strings_IndexRune_h.f k PM x) (if x = 43 then 0 else if x = 45 then 1 else -1) := by
  unfold strings_IndexRune_h.f idxF
  refine Ev.fls (by rw [dec_f (show ¬ x = 65533 by omega), Bool.and_false]) ?_
  unfold strings_IndexRune.f strings_IndexRune.e
  refine Ev.tru (dec_t h.1) (Ev.tru (dec_t h.2) (Ev.bind ?_ Ev.pure))
  unfold strings_IndexByte.f strings_IndexByte.e stringslite_IndexByte.f stringslite_IndexByte.e bytealg_IndexByteString.f
  refine Ev.bind (Ev.bind (Ev.eq ?_) Ev.pure) Ev.pure
  have e : IntKind.u8.wrap x = x := by
    have : IntKind.u8.wrap x = x % 256 := by simp [IntKind.wrap, IntKind.signed, IntKind.bits]
    rw [this]; omega
  rw [e]
  have := index_PM ⟨x.toNat, by omega⟩
  simp only at this
  rw [show ((x.toNat : Nat) : Int) = x by omega] at this
  exact this

theorem valid_ev {x : Int} (h : 128 ≤ x ∧ x < 1114112) : ∃ b, Ev (fun k => utf8_ValidRune.f k x) b := by
  have p11 : Ev (fun k => utf8_ValidRune.p11 k ()) false := Ev.turn (fun k => utf8_ValidRune.p11_succ k _) Ev.pure
  unfold utf8_ValidRune.f utf8_ValidRune.e
  by_cases h1 : x < 55296
  · exact ⟨true, Ev.tru (dec_t (by omega)) (Ev.tru (dec_t h1) Ev.pure)⟩
  by_cases h2 : 57343 < x
  · refine ⟨true, Ev.tru (dec_t (by omega)) (Ev.fls (dec_f h1) (Ev.turn (fun k => utf8_ValidRune.p7_succ k _) ?_))⟩
    unfold utf8_ValidRune.e7
    exact Ev.tru (dec_t h2) (Ev.tru (dec_t (by omega)) Ev.pure)
  · refine ⟨false, Ev.tru (dec_t (by omega)) (Ev.fls (dec_f h1) (Ev.turn (fun k => utf8_ValidRune.p7_succ k _) ?_))⟩
    unfold utf8_ValidRune.e7
    exact Ev.fls (dec_f h2) p11
theorem rune_high_ev {x : Int} (h : 128 ≤ x ∧ x < 1114112) : Ev (fun k => strings_IndexRune_h.f k PM x) (-1) := by
  unfold strings_IndexRune_h.f idxF
  by_cases he : x = 65533
  · exact Ev.tru (by rw [dec_t he]; decide) Ev.pure
  refine Ev.fls (by rw [dec_f he, Bool.and_false]) ?_
  unfold strings_IndexRune.f strings_IndexRune.e
  refine Ev.tru (dec_t (by omega)) (Ev.fls (dec_f (by omega)) ?_)
  refine Ev.turn (fun k => strings_IndexRune.p73_succ k _ _) ?_
  unfold strings_IndexRune.e73
  refine Ev.fls (dec_f he) ?_
  obtain ⟨b, hb⟩ := valid_ev h
  refine Ev.bind hb ?_
  cases b with
  | false => exact Ev.tru rfl Ev.pure
  | true =>
    refine Ev.fls rfl (Ev.turn (fun k => strings_IndexRune.p2_succ k _ _ _ _) ?_)
    unfold strings_IndexRune.e2
    have hPs : PM.size = 2 := rfl
    obtain ⟨r, hr⟩ : ∃ r : Nat, x = (r : Int) := ⟨x.toNat, by omega⟩
    subst hr
    rcases enc_high r (by omega) with ⟨a, c, hac, hc⟩ | h3 | h4
    · rw [hac]
      have hs : (ByteArray.mk #[a, c]).size = 2 := rfl
      have e1 : IntKind.i64.wrap (((ByteArray.mk #[a, c]).size : Int) - 1) = 1 := by rw [hs, wrap_i64 (by omega) (by omega)]; omega
      have e2 : btI (ByteArray.mk #[a, c]) 1 = (c.toNat : Int) := rfl
      have e3 : btI PM 1 = 45 := rfl
      have e4 : IntKind.i64.wrap ((1 : Int) + 1) = 2 := by rw [wrap_i64 (by omega) (by omega)]; omega
      rw [e1, e2, e3, e4, hPs, hs]
      refine Ev.tru (by decide) (Ev.tru (by decide) (Ev.tru (by decide) (Ev.tru ?_ (Ev.tru (by decide) (Ev.tru (by decide) ?_)))))
      · rw [dec_f (by omega)]; rfl
      unfold strings_IndexByte.f strings_IndexByte.e stringslite_IndexByte.f stringslite_IndexByte.e bytealg_IndexByteString.f
      refine Ev.bind (r := -1) (Ev.bind (Ev.bind (Ev.eq ?_) Ev.pure) Ev.pure) (Ev.tru (by decide) Ev.pure)
      rfl
    · have e1 : IntKind.i64.wrap (((Utf8.encode (r : Int)).size : Int) - 1) = 2 := by rw [h3, wrap_i64 (by omega) (by omega)]; omega
      rw [e1, hPs]
      exact Ev.fls (by decide) Ev.pure
    · have e1 : IntKind.i64.wrap (((Utf8.encode (r : Int)).size : Int) - 1) = 3 := by rw [h4, wrap_i64 (by omega) (by omega)]; omega
      rw [e1, hPs]
      exact Ev.fls (by decide) Ev.pure


theorem get!_extract (s : ByteArray) (st : Nat) {j : Nat} (h : st + j < s.size) : (((s.extract st s.size).get! j).toNat : Int) = ((s.get! (st + j)).toNat : Int) := by
  have hl := bs_length s
  have hz : (s.extract st s.size).size = s.size - st := by rw [ByteArray.size_extract]; omega
  rw [get!_bs _ (by omega), get!_bs s h, bs_extract, ← hl, List.take_length, nthD_eq, nthD_eq, List.getD_eq_getElem?_getD, List.getD_eq_getElem?_getD, List.getElem?_drop]

theorem last_high (s : ByteArray) (h0 : 0 < s.size) (hb : 128 ≤ (s.get! (s.size - 1)).toNat) :
    128 ≤ (Go.Lib.decodeLastL s.data.toList).1 ∧ (Go.Lib.decodeLastL s.data.toList).1 < 1114112 ∧ 1 ≤ (Go.Lib.decodeLastL s.data.toList).2 ∧ (Go.Lib.decodeLastL s.data.toList).2 ≤ s.size ∧ ∀ j, s.size - (Go.Lib.decodeLastL s.data.toList).2 ≤ j → j < s.size → 128 ≤ (s.get! j).toNat := by
  rw [Go.Lib.decodeLastL_eq s h0 hb]
  have hst : Go.Lib.lastStart s.data.toList < s.size := by
    have := Go.Lib.lastStart_lt s.data.toList (fun h => by
      have h2 : s.data.toList.length = 0 := by rw [h]; rfl
      rw [Array.length_toList] at h2
      have : s.size = 0 := h2
      omega)
    rw [Array.length_toList] at this
    exact this
  generalize Go.Lib.lastStart s.data.toList = st at *
  have hz : (s.extract st s.size).size = s.size - st := by rw [ByteArray.size_extract]; omega
  have e0 := get!_extract s st (j := 0) (by omega)
  rw [Nat.add_zero] at e0
  have err : 128 ≤ 65533 ∧ 65533 < 1114112 ∧ 1 ≤ 1 ∧ 1 ≤ s.size ∧ ∀ j, s.size - 1 ≤ j → j < s.size → 128 ≤ (s.get! j).toNat :=
    ⟨by omega, by omega, by omega, by omega, fun j h1 h2 => by obtain rfl : j = s.size - 1 := by omega
                                                               exact hb⟩
  have hgo : Go.Lib.decodeGo (s.extract st s.size) = Utf8.decode (s.extract st s.size) 0 := by
    unfold Go.Lib.decodeGo
    rw [if_neg (by omega)]
  unfold Go.Lib.lastOf
  rw [hgo]
  by_cases hbt : 128 ≤ ((s.extract st s.size).get! 0).toNat
  · obtain ⟨k1, k2, k3, k4, k5⟩ := dec_high (s.extract st s.size) 0 (by omega) hbt
    generalize Utf8.decode (s.extract st s.size) 0 = d at *
    by_cases hd : st + d.2 = s.size
    · rw [if_pos hd]
      refine ⟨k1, k2, k3, by omega, fun j h1 h2 => ?_⟩
      have h3 := k5 (j - st) (by omega) (by simp only at h1; omega)
      have h4 := get!_extract s st (j := j - st) (by omega)
      rw [show st + (j - st) = j by simp only at h1; omega] at h4
      omega
    · rw [if_neg hd]; exact err
  · have e : Utf8.decode (s.extract st s.size) 0 = (((s.extract st s.size).get! 0).toNat, 1) := by
      rw [Go.Lib.decode_at]
      unfold Go.Lib.decodeN
      rw [if_pos (by omega)]
    rw [e]
    have hne : ¬ st + 1 = s.size := fun h => by
      rw [show s.size - 1 = st by omega] at hb
      omega
    simp only [if_neg hne]
    exact err

theorem wrap_i32 {x : Int} (h : 0 ≤ x ∧ x < 2147483648) : IntKind.i32.wrap x = x := by
  have : IntKind.i32.wrap x = if x % 4294967296 ≥ 2147483648 then x % 4294967296 - 4294967296 else x % 4294967296 := by
    simp [IntKind.wrap, IntKind.signed, IntKind.bits]
  rw [this]
  split <;> omega
theorem ext_get (s : ByteArray) {n : Nat} (h0 : n + 1 ≤ s.size) {j : Nat} (hj : j < n + 1) : ((s.extract 0 (n + 1)).get! j).toNat = (s.get! j).toNat := by
  have hsz : (s.extract 0 (n + 1)).size = n + 1 := by rw [ByteArray.size_extract]; omega
  have h1 := get!_bs (s.extract 0 (n + 1)) (n := j) (by omega)
  have h2 := get!_bs s (n := j) (by omega)
  rw [bs_extract, List.drop_zero, nthD_eq, List.getD_eq_getElem?_getD, List.getElem?_take_of_lt (by omega)] at h1
  rw [nthD_eq, List.getD_eq_getElem?_getD] at h2
  omega
theorem declast_ev (s : ByteArray) {n : Nat} (h0 : n + 1 ≤ s.size) (h8 : s.size ≤ 8) (hx : nthD 0 (bs s) n < 128) : Ev (fun k => utf8_DecodeLastRuneInString_h.f k (s.extract 0 (n + 1))) (nthD 0 (bs s) n, (1 : Int)) := by
  have hsz : (s.extract 0 (n + 1)).size = n + 1 := by rw [ByteArray.size_extract]; omega
  have hb : btI (s.extract 0 (n + 1)) ((n : Nat) : Int) = nthD 0 (bs s) n := by
    rw [bs_btI, bs_extract, List.drop_zero, nthD_eq, nthD_eq, List.getD_eq_getElem?_getD, List.getD_eq_getElem?_getD, List.getElem?_take_of_lt (by omega)]
  have hg := get!_bs s (n := n) (by omega)
  have hr : 0 ≤ nthD 0 (bs s) n := by omega
  have e1 : IntKind.i64.wrap (((s.extract 0 (n + 1)).size : Int) - 1) = ((n : Nat) : Int) := by rw [hsz, wrap_i64 (by omega) (by omega)]; omega
  have hc : decC (s.extract 0 (n + 1)) = false := by
    unfold decC
    rw [hsz, Nat.add_sub_cancel, ext_get s h0 (by omega), dec_f (show ¬ 128 ≤ (s.get! n).toNat by omega), Bool.and_false]
  unfold utf8_DecodeLastRuneInString_h.f decF
  refine Ev.fls hc ?_
  unfold utf8_DecodeLastRuneInString.f utf8_DecodeLastRuneInString.e
  rw [e1, hb, wrap_i32 ⟨hr, by omega⟩, hsz]
  exact Ev.fls (dec_f (by omega)) (Ev.tru (by simp; omega) (Ev.tru (dec_t hx) Ev.pure))
theorem declast_high (s : ByteArray) {n : Nat} (h0 : n + 1 ≤ s.size) (h8 : s.size ≤ 8) (hx : ¬ nthD 0 (bs s) n < 128) : ∃ r m : Nat, 128 ≤ r ∧ r < 1114112 ∧ 1 ≤ m ∧ m ≤ n + 1 ∧ (∀ j, n + 1 - m ≤ j → j < n + 1 → 128 ≤ nthD 0 (bs s) j) ∧
    Ev (fun k => utf8_DecodeLastRuneInString_h.f k (s.extract 0 (n + 1))) ((r : Int), (m : Int)) := by
  have hsz : (s.extract 0 (n + 1)).size = n + 1 := by rw [ByteArray.size_extract]; omega
  have hg := get!_bs s (n := n) (by omega)
  have hb : 128 ≤ ((s.extract 0 (n + 1)).get! ((s.extract 0 (n + 1)).size - 1)).toNat := by
    rw [hsz, Nat.add_sub_cancel, ext_get s h0 (by omega)]; omega
  obtain ⟨k1, k2, k3, k4, k5⟩ := last_high (s.extract 0 (n + 1)) (by omega) hb
  rw [hsz] at k4 k5
  refine ⟨_, _, k1, k2, k3, k4, fun j h1 h2 => ?_, ?_⟩
  · have h3 := k5 j h1 h2
    rw [ext_get s h0 h2] at h3
    rw [← get!_bs s (by omega)]; omega
  · have hc : decC (s.extract 0 (n + 1)) = true := by
      unfold decC
      rw [dec_t hb, hsz, dec_t (show 0 < n + 1 by omega), dec_t (show n + 1 ≤ 1000 by omega)]; rfl
    unfold utf8_DecodeLastRuneInString_h.f decF
    exact Ev.tru hc Ev.pure

theorem lastPM_skip (l : List Int) (n : Nat) : ∀ m, m ≤ n → (∀ j, n - m ≤ j → j < n → 128 ≤ nthD 0 l j) → lastPM l n = lastPM l (n - m)
  | 0, _, _ => rfl
  | m + 1, h, hj => by
    rw [lastPM_skip l n m (by omega) (fun j h1 h2 => hj j (by omega) h2)]
    have e : n - m = (n - (m + 1)) + 1 := by omega
    have := hj (n - (m + 1)) (by omega) (by omega)
    rw [e, lastPM_succ, if_neg (by omega)]

theorem last_p8 (s : ByteArray) (h8 : s.size ≤ 8) : ∀ N n, n ≤ N → n ≤ s.size → Ev (fun k => strings_LastIndexAny.p8 k s PM (n : Int)) (lastPM (bs s) n) := by
  intro N
  induction N with
  | zero =>
    intro n hn _
    obtain rfl : n = 0 := by omega
    refine Ev.turn (fun k => strings_LastIndexAny.p8_succ k _ _ _) ?_
    unfold strings_LastIndexAny.e8
    exact Ev.fls (by simp) Ev.pure
  | succ N ih =>
    intro n hn h
    cases n with
    | zero => exact ih 0 (by omega) h
    | succ n =>
      refine Ev.turn (fun k => strings_LastIndexAny.p8_succ k _ _ _) ?_
      unfold strings_LastIndexAny.e8
      by_cases hx : nthD 0 (bs s) n < 128
      · have hg := get!_bs s (n := n) (by omega)
        have hr : 0 ≤ nthD 0 (bs s) n := by omega
        have e : IntKind.i64.wrap (((n + 1 : Nat) : Int) - 1) = (n : Int) := by rw [wrap_i64 (by omega) (by omega)]; omega
        refine Ev.tru (dec_t (by omega)) (Ev.tru (by simp; omega) (Ev.bind (declast_ev s h h8 hx) (Ev.bind (rune_ev ⟨hr, hx⟩) ?_)))
        simp only [e]
        rw [lastPM_succ]
        by_cases c1 : nthD 0 (bs s) n = 43
        · rw [if_pos c1, if_pos (.inl c1)]; exact Ev.tru (by decide) Ev.pure
        by_cases c2 : nthD 0 (bs s) n = 45
        · rw [if_neg c1, if_pos c2, if_pos (.inr c2)]; exact Ev.tru (by decide) Ev.pure
        rw [if_neg c1, if_neg c2, if_neg (fun h => h.elim c1 c2)]
        exact Ev.fls (by decide) (ih n (by omega) (by omega))
      · obtain ⟨r, m, r1, r2, m1, m2, hj, hd⟩ := declast_high s h h8 hx
        have e : IntKind.i64.wrap (((n + 1 : Nat) : Int) - (m : Int)) = ((n + 1 - m : Nat) : Int) := by rw [wrap_i64 (by omega) (by omega)]; omega
        refine Ev.tru (dec_t (by omega)) (Ev.tru (by simp; omega) (Ev.bind hd (Ev.bind (rune_high_ev ⟨by omega, by omega⟩) (Ev.fls (by decide) ?_))))
        simp only [e]
        rw [lastPM_skip (bs s) (n + 1) m m2 hj]
        exact ih (n + 1 - m) (by omega) (by omega)

theorem lia_any (s : ByteArray) (hs : s.size ≤ 16777216) : Ev (fun k => strings_LastIndexAny_h.f k s PM) (lastPM (bs s) s.size) := by
  unfold strings_LastIndexAny_h.f lastF
  have hPs : PM.size = 2 := rfl
  have hPa : PM.data.toList.all (fun b => decide (b.toNat < 128)) = true := by decide
  by_cases h8 : 8 < s.size
  · refine Ev.tru ?_ (Ev.eq (lastAny_PM s s.size (Nat.le_refl _)))
    unfold lastC
    rw [hPa, hPs, dec_t h8, dec_t (show s.size < 4294967281 by omega)]
    decide
  refine Ev.fls (by unfold lastC; rw [dec_f h8]; rfl) ?_
  unfold strings_LastIndexAny.f strings_LastIndexAny.e
  refine Ev.fls (by rw [beq_bs]; decide) ?_
  by_cases h1 : s.size = 1
  · have hg := get!_bs s (n := 0) (by omega)
    have hlt := UInt8.toNat_lt (s.get! 0)
    have hr : 0 ≤ nthD 0 (bs s) 0 := by omega
    rw [bs_btI0, wrap_i32 ⟨hr, by omega⟩]
    refine Ev.tru (dec_t (by omega)) (Ev.tru (dec_t (by omega)) ?_)
    rw [h1, lastPM_succ]
    by_cases hx : nthD 0 (bs s) 0 < 128
    · refine Ev.fls (dec_f (by omega)) (Ev.turn (fun k => strings_LastIndexAny.p15_succ k _ _) ?_)
      unfold strings_LastIndexAny.e15
      refine Ev.bind (rune_ev ⟨hr, hx⟩) ?_
      by_cases c1 : nthD 0 (bs s) 0 = 43
      · rw [if_pos c1, if_pos (.inl c1)]; exact Ev.tru (by decide) Ev.pure
      by_cases c2 : nthD 0 (bs s) 0 = 45
      · rw [if_neg c1, if_pos c2, if_pos (.inr c2)]; exact Ev.tru (by decide) Ev.pure
      rw [if_neg c1, if_neg c2, if_neg (fun h => h.elim c1 c2)]
      exact Ev.fls (by decide) Ev.pure
    · refine Ev.tru (dec_t (by omega)) (Ev.turn (fun k => strings_LastIndexAny.p15_succ k _ _) ?_)
      unfold strings_LastIndexAny.e15
      rw [if_neg (by omega)]
      exact Ev.bind (rune_high_ev (x := 65533) ⟨by omega, by omega⟩) (Ev.fls (by decide) Ev.pure)
  · refine Ev.fls (dec_f (by omega)) (Ev.bind (?_ : Ev _ false) (Ev.fls rfl (Ev.fls (by rw [hPs]; decide) (last_p8 s (by omega) s.size s.size (Nat.le_refl _) (Nat.le_refl _)))))
    unfold strings_shouldUseASCIISet.f strings_shouldUseASCIISet.e
    exact Ev.eq (dec_f (by omega))
theorem lia_ev (s : ByteArray) (hs : s.size ≤ 16777216) (_h : 8 < s.size ∨ ∀ x ∈ bs s, x < 128) : Ev (fun k => strings_LastIndexAny_h.f k s PM) (lastPM (bs s) s.size) := lia_any s hs

/-! ### At the ends -/
theorem take_one {l : List Int} (h : 0 < l.length) : l.take 1 = [nthD 0 l 0] := by
  have := take_succ_get (a := l) (n := 0) h
  simpa using this
theorem drop_one_end {l : List Int} {n : Nat} (h : n + 1 = l.length) : l.drop n = [nthD 0 l n] := by
  rw [List.drop_eq_getElem_cons (by omega), List.drop_eq_nil_of_le (by omega), nthD_eq, List.getD_eq_getElem?_getD, List.getElem?_eq_getElem (by omega)]
  rfl
theorem suffix_ev (s : ByteArray) (c : UInt8) (hs : s.size ≤ 16777216) : Ev (fun k => strings_CutSuffix.f k s (ByteArray.mk #[c])) (if nthD 0 (bs s) (s.size - 1) = c.toNat ∧ 0 < s.size then (s.extract 0 (s.size - 1), true) else (s, false)) := by
  have hl := bs_length s
  have hsz : (ByteArray.mk #[c]).size = 1 := rfl
  have hw : 0 < s.size → IntKind.i64.wrap ((s.size : Int) - ((ByteArray.mk #[c]).size : Int)) = ((s.size - 1 : Nat) : Int) := fun h => by rw [hsz, wrap_i64 (by omega) (by omega)]; omega
  have hp : Ev (fun k => stringslite_HasSuffix.f k s (ByteArray.mk #[c])) (decide (nthD 0 (bs s) (s.size - 1) = c.toNat ∧ 0 < s.size)) := by
    unfold stringslite_HasSuffix.f stringslite_HasSuffix.e
    by_cases h : 0 < s.size
    · rw [hw h]
      refine Ev.tru (by rw [hsz]; simp; omega) (Ev.tru (by simp) (Ev.eq ?_))
      rw [beq_bs, bs_extract, bs_one, Int.toNat_natCast, Int.toNat_natCast]
      apply decide_eq_decide.2
      have e1 : (bs s).take s.size = bs s := by rw [← hl, List.take_length]
      have e2 : (bs s).drop (s.size - 1) = [nthD 0 (bs s) (s.size - 1)] := by
        rw [drop_one_end (by omega)]
      rw [e1, e2]
      simp [h]
    · refine Ev.fls (by rw [hsz]; simp; omega) (Ev.eq ?_)
      simp [h]
  unfold strings_CutSuffix.f strings_CutSuffix.e
  refine Ev.bind (?_ : Ev (fun k => stringslite_CutSuffix.f k s (ByteArray.mk #[c])) (if nthD 0 (bs s) (s.size - 1) = c.toNat ∧ 0 < s.size then (s.extract 0 (s.size - 1), true) else (s, false))) Ev.pure
  unfold stringslite_CutSuffix.f stringslite_CutSuffix.e
  refine Ev.bind hp ?_
  by_cases h : nthD 0 (bs s) (s.size - 1) = c.toNat ∧ 0 < s.size
  · rw [if_pos h, dec_t h, hw h.2]
    exact Ev.fls rfl (Ev.tru (by simp) (Ev.eq (by simp)))
  · rw [if_neg h, dec_f h]
    exact Ev.tru rfl Ev.pure

theorem trimp_ev (s : ByteArray) (c : UInt8) : Ev (fun k => strings_TrimPrefix.f k s (ByteArray.mk #[c])) (if nthD 0 (bs s) 0 = c.toNat ∧ 0 < s.size then s.extract 1 s.size else s) := by
  have hl := bs_length s
  have hsz : (ByteArray.mk #[c]).size = 1 := rfl
  have hp : Ev (fun k => stringslite_HasPrefix.f k s (ByteArray.mk #[c])) (decide (nthD 0 (bs s) 0 = c.toNat ∧ 0 < s.size)) := by
    unfold stringslite_HasPrefix.f stringslite_HasPrefix.e
    by_cases h : 0 < s.size
    · refine Ev.tru (by rw [hsz]; simp; omega) (Ev.tru (by rw [hsz]; simp; omega) (Ev.eq ?_))
      rw [beq_bs, bs_extract, bs_one, hsz]
      apply decide_eq_decide.2
      have := take_one (l := bs s) (by omega)
      simp [this, h]
    · refine Ev.fls (by rw [hsz]; simp; omega) (Ev.eq ?_)
      simp [h]
  unfold strings_TrimPrefix.f strings_TrimPrefix.e
  refine Ev.bind (?_ : Ev (fun k => stringslite_TrimPrefix.f k s (ByteArray.mk #[c])) (if nthD 0 (bs s) 0 = c.toNat ∧ 0 < s.size then s.extract 1 s.size else s)) Ev.pure
  unfold stringslite_TrimPrefix.f stringslite_TrimPrefix.e
  refine Ev.bind hp ?_
  by_cases h : nthD 0 (bs s) 0 = c.toNat ∧ 0 < s.size
  · rw [if_pos h, dec_t h, hsz]
    exact Ev.tru rfl (Ev.tru (by simp; omega) (Ev.eq (by simp)))
  · rw [if_neg h, dec_f h]
    exact Ev.fls rfl Ev.pure

end Go.FK


/- The plain law of Delta: what Parse reads; Back. -/
namespace Go.FK

/-! ### A number's letters -/
def tb (p q : Rat) : List Int :=
  if q.num.sign = 1 then qb p ++ (43 :: (qb q ++ [100])) else if q.num.sign = -1 then qb p ++ (qb q ++ [100]) else qb p
theorem bs_dtxt (p q : Rat) : bs (dtxt5 p q) = tb p q := by
  have e1 : bs (ByteArray.mk #[43]) = [43] := rfl
  have e2 : bs (ByteArray.mk #[100]) = [100] := rfl
  unfold dtxt5 tb
  split
  · rw [bs_append, bs_append, bs_append, bs_qtxt, bs_qtxt, e1, e2, List.append_assoc]; rfl
  · split
    · rw [bs_append, bs_append, bs_qtxt, bs_qtxt, e2]
    · exact bs_qtxt p

theorem dd_mem {n : Nat} {x : Int} (h : x ∈ dd n) : 48 ≤ x ∧ x ≤ 57 := dgt_range (List.all_eq_true.1 (dd_all n) x h)
theorem qb_mem {q : Rat} {x : Int} (h : x ∈ qb q) : (x = 45 ∧ q.num < 0) ∨ x = 47 ∨ (48 ≤ x ∧ x ≤ 57) := by
  unfold qb at h
  rcases List.mem_append.1 h with h | h
  · split at h
    · rename_i hn; exact .inl ⟨by simpa using h, hn⟩
    · cases h
  · rcases List.mem_append.1 h with h | h
    · exact .inr (.inr (dd_mem h))
    · split at h
      · cases h
      · rcases List.mem_cons.1 h with h | h
        · exact .inr (.inl h)
        · exact .inr (.inr (dd_mem h))
theorem qb_ne (q : Rat) : qb q ≠ [] := by
  have := dd_ne q.num.natAbs
  unfold qb
  intro h
  simp only [List.append_eq_nil_iff] at h
  exact this h.2.1
theorem qb_length (q : Rat) : (qb q).length ≤ 10 * LQ q + 4 := by
  have h1 := dd_size q.num.natAbs
  have h2 := dd_size q.den
  have h3 : LQ q = L q.num.natAbs + L q.den := rfl
  unfold qb
  simp only [List.length_append]
  split <;> split <;> simp only [List.length_cons, List.length_nil] <;> omega
theorem qb_neg {q : Rat} (h : q.num < 0) : qb q = 45 :: qb (-q) := by
  have e1 : (-q).num = -q.num := Rat.neg_num q
  have e2 : (-q).den = q.den := Rat.neg_den q
  unfold qb
  rw [if_pos h, e1, e2, if_neg (show ¬ (-q.num < 0) by omega), Int.natAbs_neg]
  rfl
theorem nthD_mem {l : List Int} {i : Nat} (h : i < l.length) : nthD 0 l i ∈ l := by
  rw [nthD_eq, List.getD_eq_getElem?_getD, List.getElem?_eq_getElem h]
  exact List.getElem_mem _

/-- The text of a number with a second part: the first part, a sign, and the second's size. -/
theorem tb_sign {p q : Rat} (h : q ≠ 0) : ∃ c B, (c = 43 ∨ c = 45) ∧ tb p q = qb p ++ c :: (B ++ [100]) ∧ (∀ x ∈ B, x ≠ 43 ∧ x ≠ 45) ∧ B = qb (if c = 45 then -q else q) ∧ (c = 43 → 0 < q.num) ∧ (c = 45 → q.num < 0) := by
  have h0 : q.num.sign ≠ 0 := fun e => h (num_sign_zero.1 e)
  unfold tb
  by_cases h1 : q.num.sign = 1
  · have hp : 0 < q.num := Int.pos_of_sign_eq_one h1
    rw [if_pos h1]
    refine ⟨43, qb q, .inl rfl, rfl, fun x hx => ?_, by rw [if_neg (by decide)], fun _ => hp, fun e => absurd e (by decide)⟩
    rcases qb_mem hx with h2 | h2 | h2 <;> omega
  · have h2 : q.num.sign = -1 := by have := sign_cases q.num; omega
    have hn : q.num < 0 := Int.neg_of_sign_eq_neg_one h2
    rw [if_neg h1, if_pos h2, qb_neg hn]
    refine ⟨45, qb (-q), .inr rfl, rfl, fun x hx => ?_, by rw [if_pos rfl], fun e => absurd e (by decide), fun _ => hn⟩
    have e1 : (-q).num = -q.num := Rat.neg_num q
    rcases qb_mem hx with h3 | h3 | h3 <;> omega
theorem tb_zero (p : Rat) : tb p 0 = qb p := by
  unfold tb
  rw [if_neg (by decide), if_neg (by decide)]
theorem tb_mem {p q : Rat} {x : Int} (h : x ∈ tb p q) : x < 128 := by
  have hq : ∀ {q : Rat}, x ∈ qb q → x < 128 := fun {q} h => by rcases qb_mem h with h | h | h <;> omega
  unfold tb at h
  split at h
  · simp only [List.mem_append, List.mem_cons, List.not_mem_nil, or_false] at h
    rcases h with h | h | h | h
    · exact hq h
    · omega
    · exact hq h
    · omega
  · split at h
    · simp only [List.mem_append, List.mem_cons, List.not_mem_nil, or_false] at h
      rcases h with h | h | h
      · exact hq h
      · exact hq h
      · omega
    · exact hq h
theorem tb_length (p q : Rat) : (tb p q).length ≤ 10 * (LQ p + LQ q) + 10 := by
  have h1 := qb_length p
  have h2 := qb_length q
  unfold tb
  split
  · simp only [List.length_append, List.length_cons, List.length_nil]; omega
  · split
    · simp only [List.length_append, List.length_cons, List.length_nil]; omega
    · omega

/-! ### What the program reads -/
def ptrim (l : List Int) : List Int := if nthD 0 l 0 = 43 ∧ 0 < l.length then l.drop 1 else l
def cutd (l : List Int) : Option (List Int × List Int) :=
  if nthD 0 l (l.length - 1) = 100 ∧ 0 < l.length then
    (if lastPM (l.take (l.length - 1)) (l.length - 1) < 0 then none
    else some ((l.take (l.length - 1)).take (lastPM (l.take (l.length - 1)) (l.length - 1)).toNat, ptrim ((l.take (l.length - 1)).drop (lastPM (l.take (l.length - 1)) (l.length - 1)).toNat)))
  else some (l, [])
def pfin (l a b : List Int) : Option (Rat × Rat) := match rd a, (if b = [] then some 0 else rd b) with
  | some p, some q => if tb p q = l then some (p, q) else none
  | _, _ => none
def pd (l : List Int) : Option (Rat × Rat) := match cutd l with
  | some (a, b) => pfin l a b
  | none => none
def dR : Option (Rat × Rat) → DD × Int
  | some (p, q) => (dlt p q, 0)
  | none => (noDelta, 50)

theorem pfin_sound {l a b : List Int} {p q : Rat} (h : pfin l a b = some (p, q)) : l = tb p q := by
  unfold pfin at h
  split at h
  · split at h
    · rename_i h2
      simp only [Option.some.injEq, Prod.mk.injEq] at h
      obtain ⟨rfl, rfl⟩ := h
      exact h2.symm
    · cases h
  · cases h
theorem pd_sound {l : List Int} {p q : Rat} (h : pd l = some (p, q)) : l = tb p q := by
  unfold pd at h
  split at h
  · exact pfin_sound h
  · cases h

theorem nthD_append_right (A B : List Int) (j : Nat) : nthD 0 (A ++ B) (A.length + j) = nthD 0 B j := by
  rw [nthD_eq, nthD_eq, List.getD_eq_getElem?_getD, List.getD_eq_getElem?_getD, List.getElem?_append_right (by omega)]
  congr 2; omega
theorem lastPM_at (A B : List Int) (c : Int) (hc : c = 43 ∨ c = 45) (hB : ∀ x ∈ B, x ≠ 43 ∧ x ≠ 45) : ∀ j, j ≤ B.length → lastPM (A ++ c :: B) (A.length + 1 + j) = A.length
  | 0, _ => by
    rw [Nat.add_zero, lastPM_succ]
    have := nthD_append_right A (c :: B) 0
    rw [Nat.add_zero] at this
    rw [this]
    exact if_pos hc
  | j + 1, h => by
    rw [← Nat.add_assoc, lastPM_succ, lastPM_at A B c hc hB j (by omega)]
    have := nthD_append_right A (c :: B) (j + 1)
    rw [← Nat.add_assoc] at this
    rw [show A.length + 1 + j = A.length + j + 1 by omega, this]
    have hm := hB _ (nthD_mem (l := B) (i := j) (by omega))
    rw [if_neg (fun h => h.elim hm.1 hm.2)]
theorem cutd_sign (A B : List Int) (c : Int) (hc : c = 43 ∨ c = 45) (hB : ∀ x ∈ B, x ≠ 43 ∧ x ≠ 45) : cutd (A ++ c :: (B ++ [100])) = some (A, ptrim (c :: B)) := by
  have e : A ++ c :: (B ++ [100]) = (A ++ c :: B) ++ [100] := by simp
  have hX : (A ++ c :: B).length = A.length + 1 + B.length := by simp; omega
  rw [e]
  generalize hx : A ++ c :: B = X at *
  have hl : (X ++ [100]).length - 1 = X.length := by simp
  have h1 : nthD 0 (X ++ [100]) ((X ++ [100]).length - 1) = 100 := by
    rw [hl]
    have := nthD_append_right X [100] 0
    rw [Nat.add_zero] at this
    rw [this]; rfl
  have h2 : (X ++ [100]).take ((X ++ [100]).length - 1) = X := by rw [hl]; simp
  have h3 : lastPM X X.length = A.length := by
    rw [hX, ← hx]
    exact lastPM_at A B c hc hB B.length (Nat.le_refl _)
  unfold cutd
  rw [if_pos ⟨h1, by simp⟩, h2, hl, h3, if_neg (by omega), Int.toNat_natCast, ← hx]
  simp
theorem pd_text (p q : Rat) : pd (tb p q) = some (p, q) := by
  by_cases h : q = 0
  · subst h
    have hc : cutd (tb p 0) = some (qb p, []) := by
      rw [tb_zero]
      unfold cutd
      rw [if_neg]
      intro h1
      have h2 := nthD_mem (l := qb p) (i := (qb p).length - 1) (by omega)
      rw [h1.1] at h2
      rcases qb_mem h2 with h3 | h3 | h3 <;> omega
    unfold pd
    rw [hc]
    unfold pfin
    simp only [rd_qb, if_true]
  · obtain ⟨c, B, hc, hl, hB, hBq, hp, hn⟩ := tb_sign (p := p) h
    unfold pd
    rw [hl, cutd_sign _ _ _ hc hB]
    have hr : ptrim (c :: B) ≠ [] ∧ rd (ptrim (c :: B)) = some q := by
      rcases hc with hc | hc
      · subst hc
        have e : ptrim (43 :: B) = B := by unfold ptrim; rw [if_pos ⟨rfl, by simp⟩]; rfl
        rw [e, hBq, if_neg (by decide)]
        exact ⟨qb_ne q, rd_qb q⟩
      · subst hc
        have e : ptrim (45 :: B) = 45 :: B := by unfold ptrim; rw [if_neg (fun h => absurd h.1 (by show (45 : Int) ≠ 43; decide))]
        rw [e, hBq, if_pos rfl, ← qb_neg (hn rfl)]
        exact ⟨qb_ne q, rd_qb q⟩
    rw [← hl]
    unfold pfin
    simp only [rd_qb, if_neg hr.1, hr.2, if_true]

/-! ### The program's Parse -/
theorem parse_p35 (s : ByteArray) (w : DD) {M : Nat} {d : DD} {p q : Rat} (h : Dt M d p q) (a1 : LQ p ≤ M) (a2 : LQ q ≤ M) (h1 : 1 ≤ M) (hM : M ≤ 90000000) : Ev (fun k => delta_Parse.p35 k w d s) (dR (if tb p q = bs s then some (p, q) else none)) := by
  refine Ev.turn (fun k => delta_Parse.p35_succ k _ _ _) ?_
  unfold delta_Parse.e35
  refine Ev.bind (h.norm (by omega)) (Ev.bind ((Dt.of a1 a2).text (by omega) (by omega)) ?_)
  rw [beq_bs, bs_dtxt]
  by_cases hc : tb p q = bs s
  · rw [dec_t hc, if_pos hc]; exact Ev.fls rfl Ev.pure
  · rw [dec_f hc, if_neg hc]; exact Ev.tru rfl Ev.pure

theorem parse_p19 (s x y : ByteArray) (w : DD) (hx : x.size ≤ 16777216) (hy : y.size ≤ 16777216) : Ev (fun k => delta_Parse.p19 k w noDelta s x y) (dR (pfin (bs s) (bs x) (bs y))) := by
  refine Ev.turn (fun k => delta_Parse.p19_succ k _ _ _ _ _) ?_
  unfold delta_Parse.e19
  have l1 := bs_length x
  have l2 := bs_length y
  refine Ev.bind (ratio_Parse_rd x (by omega)) ?_
  unfold pfin
  cases h1 : rd (bs x) with
  | none => exact Ev.tru (by simp [pR]) Ev.pure
  | some p =>
    have b1 := rd_LQ h1
    refine Ev.fls (by simp [pR]) ?_
    have e0 : bs (ByteArray.mk #[]) = [] := rfl
    rw [beq_bs, e0]
    by_cases hb : bs y = []
    · rw [dec_t hb, if_pos hb]
      exact Ev.fls rfl (parse_p35 s _ (M := 90000000) (d := (rat p, noRat)) (p := p) (q := 0) ⟨Rt.of (by omega), noRat_rt.mono (by omega)⟩ (by omega) (by rw [LQ_zero]; omega) (by omega) (by omega))
    · rw [dec_f hb, if_neg hb]
      refine Ev.tru rfl (Ev.bind (ratio_Parse_rd y (by omega)) ?_)
      cases h2 : rd (bs y) with
      | none => exact Ev.tru (by simp [pR]) Ev.pure
      | some q =>
        have b2 := rd_LQ h2
        exact Ev.fls (by simp [pR]) (parse_p35 s _ (M := 90000000) (d := (rat p, rat q)) (p := p) (q := q) ⟨Rt.of (by omega), Rt.of (by omega)⟩ (by omega) (by omega) (by omega) (by omega))

theorem delta_Parse_gen (s : ByteArray) (hs : s.size ≤ 16777216) (hgen : 0 < s.size → Ev (fun k => strings_LastIndexAny_h.f k (s.extract 0 (s.size - 1)) PM) (lastPM (bs (s.extract 0 (s.size - 1))) (s.extract 0 (s.size - 1)).size)) : Ev (fun k => delta_Parse.f k s) (dR (pd (bs s))) := by
  have hl := bs_length s
  unfold delta_Parse.f delta_Parse.e pd cutd
  rw [hl]
  refine Ev.bind (suffix_ev s 100 (by omega)) ?_
  have e100 : ((100 : UInt8).toNat : Int) = 100 := rfl
  rw [e100]
  by_cases c : nthD 0 (bs s) (s.size - 1) = 100 ∧ 0 < s.size
  · rw [if_pos c, if_pos c]
    have hr : bs (s.extract 0 (s.size - 1)) = (bs s).take (s.size - 1) := by rw [bs_extract, List.drop_zero]
    have hz : (s.extract 0 (s.size - 1)).size = s.size - 1 := by rw [ByteArray.size_extract]; omega
    have hli := hgen c.2
    rw [hz, hr] at hli
    refine Ev.tru rfl (Ev.bind hli ?_)
    have hle := lastPM_le ((bs s).take (s.size - 1)) (s.size - 1)
    generalize hat : lastPM ((bs s).take (s.size - 1)) (s.size - 1) = a at *
    by_cases ha : a < 0
    · rw [if_pos ha]
      exact Ev.tru (dec_t ha) Ev.pure
    · rw [if_neg ha]
      have et := trimp_ev ((s.extract 0 (s.size - 1)).extract a.toNat (s.size - 1)) 43
      have e43 : ((43 : UInt8).toNat : Int) = 43 := rfl
      rw [e43] at et
      refine Ev.fls (dec_f ha) (Ev.tru (by simp only [hz]; simp; omega) (Ev.tru (by simp only [hz]; simp; omega) ?_))
      simp only [hz, Int.toNat_natCast, Int.toNat_zero]
      refine Ev.bind et ?_
      have hy : bs ((s.extract 0 (s.size - 1)).extract a.toNat (s.size - 1)) = ((bs s).take (s.size - 1)).drop a.toNat := by
        rw [bs_extract, hr, List.take_take, Nat.min_self]
      have hp := parse_p19 s ((s.extract 0 (s.size - 1)).extract 0 a.toNat) (if nthD 0 (bs ((s.extract 0 (s.size - 1)).extract a.toNat (s.size - 1))) 0 = 43 ∧ 0 < ((s.extract 0 (s.size - 1)).extract a.toNat (s.size - 1)).size then ((s.extract 0 (s.size - 1)).extract a.toNat (s.size - 1)).extract 1 ((s.extract 0 (s.size - 1)).extract a.toNat (s.size - 1)).size else ((s.extract 0 (s.size - 1)).extract a.toNat (s.size - 1))) noDelta (by rw [ByteArray.size_extract]; omega) (by
        split
        · rw [ByteArray.size_extract, ByteArray.size_extract]; omega
        · rw [ByteArray.size_extract]; omega)
      have f1 : bs ((s.extract 0 (s.size - 1)).extract 0 a.toNat) = ((bs s).take (s.size - 1)).take a.toNat := by rw [bs_extract, hr, List.drop_zero]
      have f2 : bs (if nthD 0 (bs ((s.extract 0 (s.size - 1)).extract a.toNat (s.size - 1))) 0 = 43 ∧ 0 < ((s.extract 0 (s.size - 1)).extract a.toNat (s.size - 1)).size then ((s.extract 0 (s.size - 1)).extract a.toNat (s.size - 1)).extract 1 ((s.extract 0 (s.size - 1)).extract a.toNat (s.size - 1)).size else ((s.extract 0 (s.size - 1)).extract a.toNat (s.size - 1))) = ptrim (((bs s).take (s.size - 1)).drop a.toNat) := by
        rw [← hy]
        generalize (s.extract 0 (s.size - 1)).extract a.toNat (s.size - 1) = t
        have ht := bs_length t
        unfold ptrim
        rw [ht]
        split
        · rw [bs_extract, ← ht, List.take_length]
        · rfl
      rw [f1, f2] at hp
      exact hp
  · rw [if_neg c, if_neg c]
    have hp := parse_p19 s s (ByteArray.mk #[]) noDelta (by omega) (by decide)
    exact Ev.fls rfl hp

theorem delta_Parse_ev (s : ByteArray) (hs : s.size ≤ 16777216) (h : 9 < s.size ∨ ∀ x ∈ bs s, x < 128) : Ev (fun k => delta_Parse.f k s) (dR (pd (bs s))) := by
  refine delta_Parse_gen s hs fun h0 => ?_
  have hr : bs (s.extract 0 (s.size - 1)) = (bs s).take (s.size - 1) := by rw [bs_extract, List.drop_zero]
  have hz : (s.extract 0 (s.size - 1)).size = s.size - 1 := by rw [ByteArray.size_extract]; omega
  refine lia_ev (s.extract 0 (s.size - 1)) (by omega) ?_
  rcases h with h | h
  · exact .inl (by omega)
  · exact .inr fun x hx => h x (List.mem_of_mem_take (hr ▸ hx))

end Go.FK


/- The plain law of Delta: what the reference's Parse reads. -/
namespace Go.FK

def cand (l : List Int) (j : Nat) : Option (Rat × Rat) :=
  if (nthD 0 l j = 43 ∨ nthD 0 l j = 45) ∧ nthD 0 l (l.length - 1) = 100 then
    match rd (l.take j), rd ((l.take (l.length - 1)).drop (j + 1)) with
    | some p, some q => if tb p (if nthD 0 l j = 45 then -q else q) = l then some (p, if nthD 0 l j = 45 then -q else q) else none
    | _, _ => none
  else none

theorem cand_text {p q : Rat} (h : q ≠ 0) : ∃ j, 1 ≤ j ∧ j + 1 < (tb p q).length ∧ cand (tb p q) j = some (p, q) := by
  obtain ⟨c, B, hc, hl, hB, hBq, hp, hn⟩ := tb_sign (p := p) h
  have hA : 1 ≤ (qb p).length := by
    have := qb_ne p
    cases hq : qb p with
    | nil => exact absurd hq this
    | cons x xs => simp
  have hlen : (tb p q).length = (qb p).length + 1 + B.length + 1 := by rw [hl]; simp; omega
  refine ⟨(qb p).length, hA, by omega, ?_⟩
  have h1 : nthD 0 (tb p q) (qb p).length = c := by
    rw [hl]
    have := nthD_append_right (qb p) (c :: (B ++ [100])) 0
    rw [Nat.add_zero] at this
    rw [this]; rfl
  have e : tb p q = (qb p ++ c :: B) ++ [100] := by rw [hl]; simp
  have hX : (qb p ++ c :: B).length = (qb p).length + 1 + B.length := by simp; omega
  have h2 : nthD 0 (tb p q) ((tb p q).length - 1) = 100 := by
    rw [hlen, e]
    have := nthD_append_right (qb p ++ c :: B) [100] 0
    rw [Nat.add_zero, hX] at this
    rw [show (qb p).length + 1 + B.length + 1 - 1 = (qb p).length + 1 + B.length by omega, this]; rfl
  have h3 : (tb p q).take (qb p).length = qb p := by rw [hl]; simp
  have h4 : ((tb p q).take ((tb p q).length - 1)).drop ((qb p).length + 1) = B := by
    rw [hlen, show (qb p).length + 1 + B.length + 1 - 1 = (qb p ++ c :: B).length by omega, e, List.take_left', List.drop_append]
    · simp
    · rfl
  unfold cand
  rw [h1, h2, if_pos ⟨hc, rfl⟩, h3, h4, rd_qb, hBq]
  by_cases h45 : c = 45
  · rw [if_pos h45, rd_qb]
    simp only [if_pos h45, Rat.neg_neg, if_true]
  · rw [if_neg h45, rd_qb]
    simp only [if_neg h45, if_true]

theorem cand_pd {l : List Int} {j : Nat} {p q : Rat} (h : cand l j = some (p, q)) : pd l = some (p, q) := by
  unfold cand at h
  by_cases c : (nthD 0 l j = 43 ∨ nthD 0 l j = 45) ∧ nthD 0 l (l.length - 1) = 100
  · rw [if_pos c] at h
    cases h1 : rd (l.take j) with
    | none => rw [h1] at h; cases h
    | some p' =>
      rw [h1] at h
      cases h2 : rd ((l.take (l.length - 1)).drop (j + 1)) with
      | none => rw [h2] at h; cases h
      | some q' =>
        rw [h2] at h
        simp only at h
        generalize (if nthD 0 l j = 45 then -q' else q') = q'' at h
        by_cases ht : tb p' q'' = l
        · rw [if_pos ht] at h
          simp only [Option.some.injEq, Prod.mk.injEq] at h
          obtain ⟨rfl, rfl⟩ := h
          rw [← ht]
          exact pd_text _ _
        · rw [if_neg ht] at h; cases h
  · rw [if_neg c] at h; cases h

variable {s : ByteArray}
theorem ref_p27 (w : DD) {p q : Rat} (hp : LQ p ≤ 9000000) (hq : LQ q ≤ 9000000) (i : Nat) (R : DD × Int) (hn : ¬ tb p q = bs s → Ev (fun k => ref05_Parse.p13 k w s (i : Int)) R) (hy : tb p q = bs s → R = (dlt p q, 0)) : Ev (fun k => ref05_Parse.p27 k w (rat p) (rat q) s (i : Int)) R := by
  refine Ev.turn (fun k => ref05_Parse.p27_succ k _ _ _ _ _) ?_
  unfold ref05_Parse.e27
  refine Ev.bind ((Dt.of hp hq).rtext (by omega) (by omega)) ?_
  rw [beq_bs, bs_dtxt]
  by_cases hc : tb p q = bs s
  · rw [dec_t hc, hy hc]; exact Ev.tru rfl Ev.pure
  · rw [dec_f hc]; exact Ev.fls rfl (hn hc)

theorem ref_p0 (hs : s.size ≤ 1100000) (w : DD) (hw : w = noDelta) : ∀ (m i : Nat), m + i = s.size → 1 ≤ i → (∀ p q, pd (bs s) = some (p, q) → ∃ j, i ≤ j ∧ j + 1 < s.size ∧ cand (bs s) j = some (p, q)) → Ev (fun k => ref05_Parse.p0 k w s (i : Int)) (dR (pd (bs s))) := by
  have hl := bs_length s
  have stop : ∀ i : Nat, ¬ i + 1 < s.size → i ≤ s.size → (∀ p q, pd (bs s) = some (p, q) → ∃ j, i ≤ j ∧ j + 1 < s.size ∧ cand (bs s) j = some (p, q)) → Ev (fun k => ref05_Parse.p0 k w s (i : Int)) (dR (pd (bs s))) := fun i hi his hno => by
    refine Ev.turn (fun k => ref05_Parse.p0_succ k _ _ _) ?_
    unfold ref05_Parse.e0
    have e : IntKind.i64.wrap ((i : Int) + 1) = ((i + 1 : Nat) : Int) := by rw [wrap_i64 (by omega) (by omega)]; omega
    have : pd (bs s) = none := by
      cases h : pd (bs s) with
      | none => rfl
      | some r =>
        obtain ⟨j, h1, h2, _⟩ := hno r.1 r.2 h
        omega
    rw [this, e]
    exact Ev.fls (dec_f (by omega)) Ev.pure
  intro m
  induction m with
  | zero => intro i hi h1 hno; exact stop i (by omega) (by omega) hno
  | succ m ih =>
    intro i hi h1 hno
    by_cases hge : ¬ i + 1 < s.size
    · exact stop i hge (by omega) hno
    have hlt : i + 1 < s.size := Decidable.not_not.1 hge
    have e : IntKind.i64.wrap ((i : Int) + 1) = ((i + 1 : Nat) : Int) := by rw [wrap_i64 (by omega) (by omega)]; omega
    have e2 : IntKind.i64.wrap ((s.size : Int) - 1) = ((s.size - 1 : Nat) : Int) := by rw [wrap_i64 (by omega) (by omega)]; omega
    have hb : (decide (0 ≤ (i : Int)) && decide ((i : Int) < (s.size : Int))) = true := by simp; omega
    have hb2 : (decide (0 ≤ ((s.size - 1 : Nat) : Int)) && decide (((s.size - 1 : Nat) : Int) < (s.size : Int))) = true := by simp; omega
    have p13 : cand (bs s) i = none → Ev (fun k => ref05_Parse.p13 k w s (i : Int)) (dR (pd (bs s))) := fun hc => by
      refine Ev.turn (fun k => ref05_Parse.p13_succ k _ _ _) ?_
      unfold ref05_Parse.e13
      rw [e]
      refine ih (i + 1) (by omega) (by omega) fun p q hpq => ?_
      obtain ⟨j, j1, j2, j3⟩ := hno p q hpq
      refine ⟨j, ?_, j2, j3⟩
      rcases Nat.eq_or_lt_of_le j1 with h | h
      · subst h; rw [hc] at j3; cases j3
      · omega
    have p17 : (nthD 0 (bs s) i = 43 ∨ nthD 0 (bs s) i = 45) ∧ nthD 0 (bs s) (s.size - 1) = 100 → Ev (fun k => ref05_Parse.p17 k w s (i : Int)) (dR (pd (bs s))) := fun hc => by
      refine Ev.turn (fun k => ref05_Parse.p17_succ k _ _ _) ?_
      unfold ref05_Parse.e17
      rw [e, e2]
      simp only [Int.toNat_natCast, Int.toNat_zero]
      have x1 : (s.extract 0 i).size ≤ 1100000 := by rw [ByteArray.size_extract]; omega
      have x2 : (s.extract (i + 1) (s.size - 1)).size ≤ 1100000 := by rw [ByteArray.size_extract]; omega
      have y1 : bs (s.extract 0 i) = (bs s).take i := by rw [bs_extract, List.drop_zero]
      have y2 : bs (s.extract (i + 1) (s.size - 1)) = ((bs s).take (s.size - 1)).drop (i + 1) := bs_extract _ _ _
      have hcand : cand (bs s) i = match rd (bs (s.extract 0 i)), rd (bs (s.extract (i + 1) (s.size - 1))) with
        | some p, some q => if tb p (if nthD 0 (bs s) i = 45 then -q else q) = bs s then some (p, if nthD 0 (bs s) i = 45 then -q else q) else none
        | _, _ => none := by
        unfold cand
        rw [y1, y2, hl, if_pos hc]
      have z1 := bs_length (s.extract 0 i)
      have z2 := bs_length (s.extract (i + 1) (s.size - 1))
      refine Ev.tru (by simp; omega) (Ev.bind (ref03_Parse_rd _ (by omega)) (Ev.tru (by simp; omega) (Ev.bind (ref03_Parse_rd _ (by omega)) ?_)))
      cases h1 : rd (bs (s.extract 0 i)) with
      | none => rw [h1] at hcand; exact Ev.tru (by simp [pR]) (p13 hcand)
      | some p =>
        rw [h1] at hcand
        have b1 := rd_LQ h1
        refine Ev.fls (by simp [pR]) ?_
        cases h2 : rd (bs (s.extract (i + 1) (s.size - 1))) with
        | none => rw [h2] at hcand; exact Ev.tru (by simp [pR]) (p13 hcand)
        | some q =>
          rw [h2] at hcand
          simp only at hcand
          have b2 := rd_LQ h2
          refine Ev.fls (by simp [pR]) (Ev.tru hb ?_)
          rw [bs_btI]
          have fin : ∀ q' : Rat, LQ q' ≤ 9000000 → q' = (if nthD 0 (bs s) i = 45 then -q else q) → Ev (fun k => ref05_Parse.p27 k w (rat p) (rat q') s (i : Int)) (dR (pd (bs s))) := fun q' hq' e' => by
            rw [← e'] at hcand
            refine ref_p27 w (by omega) hq' i _ (fun hne => p13 (by rw [hcand, if_neg hne])) fun he => ?_
            rw [if_pos he] at hcand
            rw [cand_pd hcand]; rfl
          by_cases h45 : nthD 0 (bs s) i = 45
          · have hr : Rt 9000000 (rat q) q := Rt.of (by omega)
            exact Ev.tru (dec_t h45) (Ev.bind (hr.rneg (by omega) (by omega)) (fin (-q) (by rw [LQ_neg]; omega) (by rw [if_pos h45])))
          · exact Ev.fls (dec_f h45) (fin q (by omega) (by rw [if_neg h45]))
    have no : ¬ ((nthD 0 (bs s) i = 43 ∨ nthD 0 (bs s) i = 45) ∧ nthD 0 (bs s) (s.size - 1) = 100) → Ev (fun k => ref05_Parse.p13 k w s (i : Int)) (dR (pd (bs s))) := fun hc => p13 (by unfold cand; rw [hl, if_neg hc])
    refine Ev.turn (fun k => ref05_Parse.p0_succ k _ _ _) ?_
    unfold ref05_Parse.e0
    rw [e, e2, bs_btI, bs_btI]
    refine Ev.tru (dec_t (by omega)) (Ev.tru hb ?_)
    by_cases c43 : nthD 0 (bs s) i = 43
    · refine Ev.fls (by rw [dec_t c43]; rfl) (Ev.tru hb2 ?_)
      by_cases c100 : nthD 0 (bs s) (s.size - 1) = 100
      · exact Ev.fls (by rw [dec_t c100]; rfl) (p17 ⟨.inl c43, c100⟩)
      · exact Ev.tru (by rw [dec_f c100]; rfl) (no fun h => c100 h.2)
    · refine Ev.tru (by rw [dec_f c43]; rfl) (Ev.tru hb ?_)
      by_cases c45 : nthD 0 (bs s) i = 45
      · refine Ev.fls (by rw [dec_t c45]; rfl) (Ev.tru hb2 ?_)
        by_cases c100 : nthD 0 (bs s) (s.size - 1) = 100
        · exact Ev.fls (by rw [dec_t c100]; rfl) (p17 ⟨.inr c45, c100⟩)
        · exact Ev.tru (by rw [dec_f c100]; rfl) (no fun h => c100 h.2)
      · exact Ev.tru (by rw [dec_f c45]; rfl) (no fun h => h.1.elim c43 c45)

theorem ref05_Parse_ev (hs : s.size ≤ 1100000) : Ev (fun k => ref05_Parse.f k s) (dR (pd (bs s))) := by
  have hl := bs_length s
  have p9 : (∀ p, rd (bs s) = some p → ¬ tb p 0 = bs s) → Ev (fun k => ref05_Parse.p9 k noDelta s) (dR (pd (bs s))) := fun hno => by
    refine Ev.turn (fun k => ref05_Parse.p9_succ k _ _) ?_
    unfold ref05_Parse.e9
    by_cases h0 : 1 ≤ s.size
    · refine ref_p0 hs noDelta rfl (s.size - 1) 1 (by omega) (by omega) fun p q hpq => ?_
      have ht := pd_sound hpq
      by_cases hq : q = 0
      · subst hq
        exact absurd ht.symm (hno p (by rw [ht, tb_zero, rd_qb]))
      · obtain ⟨j, j1, j2, j3⟩ := cand_text (p := p) hq
        rw [← ht] at j2 j3
        exact ⟨j, j1, by omega, j3⟩
    · have : pd (bs s) = none := by
        cases h : pd (bs s) with
        | none => rfl
        | some r =>
          have ht := pd_sound (p := r.1) (q := r.2) h
          have : (tb r.1 r.2).length = 0 := by rw [← ht]; omega
          have hA := qb_ne r.1
          have hle : (qb r.1).length ≤ (tb r.1 r.2).length := by
            unfold tb
            split
            · simp
            · split <;> simp
          exact absurd (List.length_eq_zero_iff.1 (by omega)) hA
      rw [this]
      refine Ev.turn (fun k => ref05_Parse.p0_succ k _ _ _) ?_
      unfold ref05_Parse.e0
      have e : IntKind.i64.wrap ((1 : Int) + 1) = 2 := by rw [wrap_i64 (by omega) (by omega)]; omega
      rw [e]
      exact Ev.fls (dec_f (by omega)) Ev.pure
  unfold ref05_Parse.f ref05_Parse.e
  refine Ev.bind (ref03_Parse_rd s (by omega)) ?_
  cases h1 : rd (bs s) with
  | none => exact Ev.fls (by simp [pR]) (p9 fun p hp => by rw [h1] at hp; cases hp)
  | some p =>
    have b1 := rd_LQ h1
    have hr : Rt 9000000 (rat p) p := Rt.of (by omega)
    refine Ev.tru (by simp [pR]) (Ev.bind (hr.rdof (by omega)) (Ev.bind ((Dt.of (M := 9000000) (by omega) (by rw [LQ_zero]; omega)).rtext (by omega) (by omega)) ?_))
    rw [beq_bs, bs_dtxt]
    by_cases hc : tb p 0 = bs s
    · rw [dec_t hc]
      refine Ev.tru rfl (Ev.bind (hr.rdof (by omega)) ?_)
      rw [← hc, pd_text]
      exact Ev.pure
    · rw [dec_f hc]
      exact Ev.fls rfl (p9 fun p' hp => by rw [h1] at hp; cases hp; exact hc)

theorem pd_LQ {l : List Int} {p q : Rat} (h : pd l = some (p, q)) (hl : l.length ≤ 1100000) : LQ p ≤ 6000000 ∧ LQ q ≤ 6000000 := by
  have ht := pd_sound h
  by_cases hq : q = 0
  · subst hq
    rw [tb_zero] at ht
    have hr : rd l = some p := by rw [ht, rd_qb]
    have := rd_LQ hr
    exact ⟨by omega, by rw [LQ_zero]; omega⟩
  · obtain ⟨c, B, hc, hlb, hB, hBq, _, _⟩ := tb_sign (p := p) hq
    have e : l.length = (qb p).length + 1 + B.length + 1 := by rw [ht, hlb]; simp; omega
    have b1 := rd_LQ (rd_qb p)
    have b2 := rd_LQ (rd_qb (if c = 45 then -q else q))
    rw [← hBq] at b2
    have b3 : LQ (if c = 45 then -q else q) = LQ q := by split; exact LQ_neg q; rfl
    omega

/-! ### Reads, where the program's Parse is known -/
theorem dreads_ev (s : ByteArray) (hs : s.size ≤ 1100000) (hp : Ev (fun k => delta_Parse.f k s) (dR (pd (bs s)))) : Ev (fun k => law05_DeltaReads.f k s) true := by
  unfold law05_DeltaReads.f law05_DeltaReads.e
  have hl := bs_length s
  refine Ev.bind hp (Ev.bind (ref05_Parse_ev hs) (Ev.fls (by simp) ?_))
  have p11 : ∀ x : Option (Rat × Rat), Ev (fun k => law05_DeltaReads.p11 k (dR x).1 (dR x).2) true := fun x => by
    refine Ev.turn (fun k => law05_DeltaReads.p11_succ k _ _) ?_
    unfold law05_DeltaReads.e11
    refine Ev.bind lives_ev (Ev.tru rfl ?_)
    have hn : Ev (fun k => law05_none.f k noRat) true := by
      unfold law05_none.f law05_none.e noRat
      exact Ev.tru rfl (Ev.tru (by simp) Ev.pure)
    cases x with
    | none => exact Ev.fls (by simp [dR]) (Ev.bind hn (Ev.tru rfl (Ev.bind hn Ev.pure)))
    | some r => exact Ev.tru (by simp [dR]) Ev.pure
  cases hx : pd (bs s) with
  | none => exact Ev.fls (by simp [dR]) (p11 none)
  | some r =>
    obtain ⟨p, q⟩ := r
    have hb : LQ p ≤ 6000000 ∧ LQ q ≤ 6000000 := pd_LQ hx (by omega)
    exact Ev.tru (by simp [dR]) (Ev.bind (same5 (M := 6000000) hb.1 hb.2 (by omega)) (Ev.fls rfl (p11 (some (p, q)))))

end Go.FK


/- The plain law of Delta: Reads. -/
namespace Go.FK

theorem dreads_math (x : TD [.str]) (_hw : wfDs (encT [.str] x)) (hm : massDs (encT [.str] x) ≤ 1048576) : ∃ k, law05_DeltaReads.f k x = some true := by
  have hm' : Ty.str.mass x + 0 ≤ 1048576 := hm
  have h1 : (show ByteArray from x).size ≤ Ty.str.mass x := by
    show _ ≤ _
    first | exact Nat.le_refl _ | exact Nat.le_succ _ | (simp only [Ty.mass]; omega)
  have h2 : (show ByteArray from x).size ≤ 1100000 := by omega
  have key : ∀ s : ByteArray, s.size ≤ 1100000 → Ev (fun k => law05_DeltaReads.f k s) true := fun s hs =>
    dreads_ev s hs (delta_Parse_gen s (by omega) fun _ => lia_any _ (by rw [ByteArray.size_extract]; omega))
  exact (key x h2).some

end Go.FK
