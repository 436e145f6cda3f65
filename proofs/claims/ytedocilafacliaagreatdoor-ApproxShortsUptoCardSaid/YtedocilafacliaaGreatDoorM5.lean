import Derived.Test.YtedocilafacliaaGreatDoorM3
import Derived.Test.YtedocilafacliaaGreatDoorM4

/- Decimal texts: what their letters say; the program's parts. -/
namespace Go.FK
set_option exponentiation.threshold 20000

/-! ### Letters -/
theorem tw_all {p : Int → Bool} : ∀ {l : List Int}, l.all p = true → l.takeWhile p = l ∧ l.dropWhile p = []
  | [], _ => ⟨rfl, rfl⟩
  | x :: xs, h => by
    simp only [List.all_cons, Bool.and_eq_true] at h
    obtain ⟨h1, h2⟩ := tw_all h.2
    simp [h.1, h1, h2]
theorem tw_append {p : Int → Bool} {c : Int} {m : List Int} (hc : p c = false) : ∀ {l : List Int}, l.all p = true → (l ++ c :: m).takeWhile p = l ∧ (l ++ c :: m).dropWhile p = c :: m
  | [], _ => by simp [hc]
  | x :: xs, h => by
    simp only [List.all_cons, Bool.and_eq_true] at h
    obtain ⟨h1, h2⟩ := tw_append (m := m) hc h.2
    simp [h.1, h1, h2]
theorem cons_at {l : List Int} {i : Nat} (h : i < l.length) : l.drop i = nthD 0 l i :: l.drop (i + 1) := by
  have h1 := List.drop_eq_getElem_cons h
  have h2 : nthD 0 l i = l[i] := by rw [nthD_eq, List.getD_eq_getElem?_getD, List.getElem?_eq_getElem h]; rfl
  rw [h2]; exact h1
theorem tw_split {l : List Int} {i : Nat} (h : (l.take i).all dgt = true) (hi : i ≤ l.length) (hb : i = l.length ∨ dgt (nthD 0 l i) = false) : l.takeWhile dgt = l.take i ∧ l.dropWhile dgt = l.drop i := by
  by_cases hl : i = l.length
  · subst hl
    rw [List.take_length] at h ⊢
    rw [List.drop_length]
    exact tw_all h
  · have hb' : dgt (nthD 0 l i) = false := hb.resolve_left hl
    have hil : i < l.length := by omega
    have hd := cons_at hil
    obtain ⟨h1, h2⟩ := tw_append (m := l.drop (i + 1)) hb' h
    rw [← hd, List.take_append_drop] at h1 h2
    exact ⟨h1, h2⟩
theorem tw_dgt (l : List Int) : (l.takeWhile dgt).all dgt = true := by
  induction l with
  | nil => rfl
  | cons x xs ih =>
    rw [List.takeWhile_cons]
    split
    · rename_i h; simp [h, ih]
    · rfl
theorem tw_len (l : List Int) : (l.takeWhile dgt).length + (l.dropWhile dgt).length = l.length := by
  rw [← List.length_append, List.takeWhile_append_dropWhile]
theorem d48_all : ∀ (f : List Int), (f.dropWhile (· == 48)).all dgt = f.all dgt ∧ dval (f.dropWhile (· == 48)) = dval f
  | [] => ⟨rfl, rfl⟩
  | x :: xs => by
    by_cases e : x = 48
    · subst e
      obtain ⟨h1, h2⟩ := d48_all xs
      have hd : dgt 48 = true := by decide
      refine ⟨by simp [h1, hd], ?_⟩
      simp only [List.dropWhile_cons, beq_self_eq_true, if_true, h2]
      simp [dval]
    · have : (x == 48) = false := by simpa using e
      simp [this]
theorem d48_head : ∀ (f : List Int), nthD 0 (f.dropWhile (· == 48)) 0 ≠ 48
  | [] => by simp [nthD]
  | x :: xs => by
    by_cases e : x = 48
    · subst e; simpa [List.dropWhile_cons] using d48_head xs
    · have : (x == 48) = false := by simpa using e
      simpa [List.dropWhile_cons, this, nthD] using e
theorem nth_nil (i : Nat) : nthD (0 : Int) [] i = 0 := by cases i <;> rfl
theorem bs_append (a b : ByteArray) : bs (a ++ b) = bs a ++ bs b := by simp [bs]
theorem bs_nil {s : ByteArray} (h : s.size = 0) : bs s = [] := List.length_eq_zero_iff.1 (by rw [bs_length]; exact h)
theorem dval_bound {l : List Int} (h : l.all dgt = true) : dval l < 10 ^ l.length := dval_lt _ l rfl h
theorem dval_cons48 (l : List Int) : dval (48 :: l) = dval l := by simp [dval]

/-- A power of ten. -/
def p10 (n : Int) : Rat := if n < 0 then (((10 ^ n.natAbs : Nat) : Rat))⁻¹ else ((10 ^ n.natAbs : Nat) : Rat)
/-- A text of digits and an exponent. -/
def dv (d : Nat) (e : Int) : Rat := (d : Rat) * p10 e

/-- What stands behind the e. -/
def xbody (t : List Int) : List Int := if nthD 0 t 0 = 45 ∨ nthD 0 t 0 = 43 then t.drop 1 else t
def xval (t : List Int) : Option Int := if xbody t = [] ∨ (xbody t).all dgt = false ∨ 5000 < dval (xbody t) then none else some (if nthD 0 t 0 = 45 then -(dval (xbody t) : Int) else (dval (xbody t) : Int))
/-- What stands behind the digits. -/
def xtail (t : List Int) : Option Int := if t = [] then some 0 else if nthD 0 t 0 = 101 ∨ nthD 0 t 0 = 69 then xval (t.drop 1) else none
def dfr (l : List Int) : List Int := if nthD 0 (l.dropWhile dgt) 0 = 46 then ((l.dropWhile dgt).drop 1).takeWhile dgt else []
def drest (l : List Int) : List Int := if nthD 0 (l.dropWhile dgt) 0 = 46 then ((l.dropWhile dgt).drop 1).dropWhile dgt else l.dropWhile dgt
/-- A decimal text without its sign: its digits and the exponent. -/
def dspec (l : List Int) : Option (Nat × Int) :=
  if l.takeWhile dgt = [] ∨ (nthD 0 (l.dropWhile dgt) 0 = 46 ∧ dfr l = []) then none
  else match xtail (drest l) with
    | none => none
    | some e => some (dval (l.takeWhile dgt ++ dfr l), e - (dfr l).length)

theorem xval_abs {t : List Int} {e : Int} (h : xval t = some e) : -5000 ≤ e ∧ e ≤ 5000 := by
  unfold xval at h
  split at h
  · cases h
  · rename_i hc
    simp only [Option.some.injEq] at h
    rw [← h]
    split <;> omega
theorem xtail_abs {t : List Int} {e : Int} (h : xtail t = some e) : -5000 ≤ e ∧ e ≤ 5000 := by
  unfold xtail at h
  split at h
  · cases h; omega
  · split at h
    · exact xval_abs h
    · cases h

/-! ### Powers of ten -/
theorem LQ_natR (n : Nat) : LQ (n : Rat) = FK.L n + 1 := by
  unfold LQ
  rw [Rat.num_natCast, Rat.den_natCast, L_one]
  rfl
theorem LQ_p10 {n : Int} {N : Nat} (h : n.natAbs ≤ N) : LQ (p10 n) ≤ N + 3 := by
  have h1 := LQ_natR (10 ^ n.natAbs)
  have h2 := L_ten n.natAbs
  unfold p10
  split
  · have := LQ_inv (((10 ^ n.natAbs : Nat) : Rat)); omega
  · omega
theorem ten_ne (n : Nat) : (((10 ^ n : Nat) : Rat)) ≠ 0 := by
  have : (10 ^ n : Nat) ≠ 0 := Nat.ne_of_gt (Nat.pow_pos (by omega))
  exact_mod_cast this
theorem divInt_one (z : Int) : Rat.divInt z 1 = (z : Rat) := by
  have h : mkRat z 1 = (z : Rat) := Rat.mkRat_self (z : Rat)
  rw [(divInt_cases z 1).2 (by omega)]
  exact h

theorem aten_ev (n : Int) (hn : n.natAbs ≤ 100000) : Ev (fun k => approx_ten.f k n) (rat (p10 n)) := by
  have exit_ : ∀ b : Int, b ≤ 0 → Ev (fun k => approx_ten.p0 k noRat n (lim (10 ^ n.natAbs)) b) (rat (p10 n)) := by
    intro b hb
    refine Ev.turn (fun k => approx_ten.p0_succ k _ _ _ _) ?_
    unfold approx_ten.e0
    have p21 : Ev (fun k => approx_ten.p21 k noRat (rat (p10 n))) (rat (p10 n)) := Ev.turn (fun k => approx_ten.p21_succ k _ _) Ev.pure
    have l := L_ten n.natAbs
    have h1 : Nt 100010 (lim (10 ^ n.natAbs)) (10 ^ n.natAbs) := Nt.of (by omega)
    have hone : Zt 100010 (int 1) 1 := (Zt.of (Nat.le_refl _)).mono (by rw [show LZ 1 = 1 from L_one]; omega)
    have hof := h1 |> Zt.pos |> fun z => z.of_ev hone (by omega) (by omega)
    rw [divInt_one] at hof
    refine Ev.fls (dec_f (by omega)) (Ev.bind (whole_Of_ev (by omega)) (Ev.bind hof ?_))
    by_cases h0 : n < 0
    · refine Ev.tru (dec_t h0) ?_
      have hr : Rt 100020 (rat (((10 ^ n.natAbs : Nat) : Int) : Rat)) (((10 ^ n.natAbs : Nat) : Int) : Rat) := Rt.of (by
        have := LQ_natR (10 ^ n.natAbs)
        rw [Rat.intCast_natCast]
        omega)
      have hinv := hr.inv (by omega) (by omega) (by rw [Rat.intCast_natCast]; exact ten_ne _)
      have e : ((((10 ^ n.natAbs : Nat) : Int) : Rat))⁻¹ = p10 n := by unfold p10; rw [if_pos h0, Rat.intCast_natCast]
      rw [e] at hinv
      exact Ev.bind hinv p21
    · refine Ev.fls (dec_f h0) ?_
      have e : ((((10 ^ n.natAbs : Nat) : Int) : Rat)) = p10 n := by unfold p10; rw [if_neg h0, Rat.intCast_natCast]
      rw [e]
      exact p21
  have loop : ∀ N j m : Nat, j ≤ N → j + m = n.natAbs → Ev (fun k => approx_ten.p0 k noRat n (lim (10 ^ m)) (j : Int)) (rat (p10 n)) := by
    intro N
    induction N with
    | zero =>
      intro j m hj hm
      obtain rfl : j = 0 := by omega
      rw [show m = n.natAbs by omega]
      exact exit_ _ (by omega)
    | succ N ih =>
      intro j m hj hm
      by_cases h0 : j = 0
      · exact ih j m (by omega) hm
      refine Ev.turn (fun k => approx_ten.p0_succ k _ _ _ _) ?_
      unfold approx_ten.e0
      have hs : (bif decide ((4096 : Int) < (j : Int)) then (4096 : Int) else (j : Int)) = ((min 4096 j : Nat) : Int) := by
        by_cases h : 4096 < j
        · rw [dec_t (by omega)]; simp; omega
        · rw [dec_f (by omega)]; simp; omega
      have h10 : lim 10 = [10] := by decide +kernel
      have hten : Ev (fun k => nat_Of.f k (10 : Int)) ([10] : List Int) := by
        have := nat_Of_ev (n := 10) (by omega)
        rw [show (10 : Int).toNat = 10 from rfl, h10] at this
        exact this
      have l1 := L_ten m
      have l2 := L_ten (min 4096 j)
      have n1 : Nt 100010 (lim (10 ^ m)) (10 ^ m) := Nt.of (by omega)
      have n2 : Nt 100010 (lim (10 ^ (min 4096 j))) (10 ^ (min 4096 j)) := Nt.of (by omega)
      rw [hs]
      refine Ev.tru (dec_t (by omega)) (Ev.bind hten (Ev.bind (pow_ev (by omega)) (Ev.bind (n1.mul n2 (by omega)) ?_)))
      rw [← Nat.pow_add, wrap_i64 (by omega) (by omega)]
      by_cases h : 4096 < j
      · have := ih (j - 4096) (m + min 4096 j) (by omega) (by omega)
        rwa [show (((j - 4096 : Nat) : Nat) : Int) = (j : Int) - 4096 by omega] at this
      · rw [show m + min 4096 j = n.natAbs by omega]
        exact exit_ _ (by omega)
  unfold approx_ten.f approx_ten.e
  have h1 : Ev (fun k => nat_Of.f k (1 : Int)) (lim (10 ^ 0)) := by
    have := nat_Of_ev (n := 1) (by omega)
    exact this
  refine Ev.bind h1 ?_
  have e : (bif decide (IntKind.i64.wrap (0 - n) > n) then IntKind.i64.wrap (0 - n) else n) = ((n.natAbs : Nat) : Int) := by
    rw [wrap_i64 (by omega) (by omega)]
    by_cases h : 0 - n > n
    · rw [dec_t h]; simp; omega
    · rw [dec_f h]; simp; omega
  rw [e]
  exact loop n.natAbs n.natAbs 0 (Nat.le_refl _) (by omega)

/-! ### The program's parts -/
theorem digits_ev (s : ByteArray) (hs : s.size ≤ 1073741824) : ∃ x y, Ev (fun k => approx_digits.f k s) (x, y) ∧ bs x = (bs s).takeWhile dgt ∧ bs y = (bs s).dropWhile dgt := by
  have hl := bs_length s
  have p9 : ∀ i : Nat, i ≤ s.size → Ev (fun k => approx_digits.p9 k s (i : Int)) (s.extract 0 i, s.extract i s.size) := fun i hi => by
    refine Ev.turn (fun k => approx_digits.p9_succ k _ _) ?_
    unfold approx_digits.e9
    exact Ev.tru (by simp; omega) (Ev.tru (by simp; omega) (Ev.eq (by simp)))
  have loop : ∀ m i : Nat, m + i = s.size → ((bs s).take i).all dgt = true → ∃ j : Nat, Ev (fun k => approx_digits.p0 k s (i : Int)) (s.extract 0 j, s.extract j s.size) ∧ j ≤ s.size ∧ ((bs s).take j).all dgt = true ∧ (j = (bs s).length ∨ dgt (nthD 0 (bs s) j) = false) := by
    intro m
    induction m with
    | zero =>
      intro i hi ha
      refine ⟨i, ?_, by omega, ha, .inl (by omega)⟩
      refine Ev.turn (fun k => approx_digits.p0_succ k _ _) ?_
      unfold approx_digits.e0
      exact Ev.fls (dec_f (by omega)) (p9 i (by omega))
    | succ m ih =>
      intro i hi ha
      have hnext := @all_take (bs s) i (by omega) ha
      by_cases hd : dgt (nthD 0 (bs s) i) = true
      · obtain ⟨j, h1, h2⟩ := ih (i + 1) (by omega) (hnext hd)
        refine ⟨j, ?_, h2⟩
        refine Ev.turn (fun k => approx_digits.p0_succ k _ _) ?_
        unfold approx_digits.e0
        rw [bs_btI, wrap_i64 (by omega) (by omega)]
        generalize nthD 0 (bs s) i = x at *
        simp only [dgt, Bool.and_eq_true, decide_eq_true_eq] at hd
        exact Ev.tru (dec_t (by omega)) (Ev.tru (by simp; omega) (Ev.tru (dec_t (by omega)) (Ev.tru (by simp; omega) (Ev.tru (dec_t (by omega)) h1))))
      · have hd : dgt (nthD 0 (bs s) i) = false := by simpa using hd
        refine ⟨i, ?_, by omega, ha, .inr hd⟩
        have h9 := p9 i (by omega)
        refine Ev.turn (fun k => approx_digits.p0_succ k _ _) ?_
        unfold approx_digits.e0
        rw [bs_btI]
        generalize nthD 0 (bs s) i = x at *
        refine Ev.tru (dec_t (by omega)) (Ev.tru (by simp; omega) ?_)
        by_cases h1 : x ≥ 48
        · have h2 : ¬ x ≤ 57 := fun h => by simp [dgt] at hd; omega
          exact Ev.tru (dec_t h1) (Ev.tru (by simp; omega) (Ev.fls (dec_f h2) h9))
        · exact Ev.fls (dec_f h1) h9
  obtain ⟨j, h1, h2, h3, h4⟩ := loop s.size 0 (by omega) (by simp)
  obtain ⟨t1, t2⟩ := tw_split h3 (by omega) h4
  refine ⟨s.extract 0 j, s.extract j s.size, ?_, ?_, ?_⟩
  · unfold approx_digits.f approx_digits.e
    exact h1
  · rw [bs_extract, List.drop_zero, t1]
  · rw [bs_extract, ← hl, List.take_length, t2]

theorem Rt.zeroR {M : Nat} : Rt M noRat 0 := ⟨Lim.nil, Lim.nil, by simp [noRat], by simp [noRat], by simp [Qv, noRat, Zv, V]⟩

theorem number_ev' {s : ByteArray} (hs : s.size ≤ 16777216) (ha : (bs s).all dgt = true) : ∃ r, Ev (fun k => approx_number.f k s) r ∧ Rt (s.size + 3) r ((dval (bs s) : Nat) : Rat) := by
  obtain ⟨t, h1, h2⟩ := trim_zero s
  have hnil : bs (ByteArray.mk #[]) = [] := rfl
  obtain ⟨a1, a2⟩ := d48_all (bs s)
  rw [← h2] at a1 a2
  have hlen : t.size ≤ s.size := by
    rw [← bs_length, ← bs_length, h2]
    exact (List.dropWhile_suffix _).length_le
  have hl := bs_length t
  unfold approx_number.f approx_number.e
  by_cases h : bs t = []
  · refine ⟨_, Ev.bind h1 (Ev.tru (by rw [beq_bs, hnil]; exact dec_t h) Ev.pure), ?_⟩
    rw [← a2, h]
    have : ((dval [] : Nat) : Rat) = 0 := rfl
    rw [this]
    exact Rt.zeroR
  · have hp : pn (bs t) = some (dval (bs t)) := by
      unfold pn
      rw [if_neg (fun h' => h'.elim h fun h' => by rw [h2] at h'; exact d48_head _ h'.2), a1, if_pos ha]
    have hq := nat_Parse_ev t (by omega)
    have hL : FK.L (dval (bs t)) ≤ t.size := by rw [← hl]; exact L_dval (by rw [a1]; exact ha)
    have hpr : pnR (bs t) = (lim (dval (bs t)), 0) := by unfold pnR; rw [hp]
    rw [hpr] at hq
    have hn : Nt (s.size + 2) (lim (dval (bs t))) (dval (bs t)) := Nt.of (by omega)
    have hone : Zt (s.size + 2) (int 1) 1 := (Zt.of (Nat.le_refl _)).mono (by rw [show LZ 1 = 1 from L_one]; omega)
    have hof := (Zt.pos hn).of_ev hone (by omega) (by omega)
    rw [divInt_one, Rat.intCast_natCast] at hof
    refine ⟨_, Ev.bind h1 (Ev.fls (by rw [beq_bs, hnil]; exact dec_f h) (Ev.bind hq (Ev.bind (whole_Of_ev (by omega)) (Ev.bind hof Ev.pure)))), ?_⟩
    rw [← a2]
    exact Rt.of (by have := LQ_natR (dval (bs t)); omega)

theorem has_ev (s : ByteArray) (c : UInt8) (hc : c ≠ 0) : Ev (fun k => strings_HasPrefix.f k s (ByteArray.mk #[c])) (decide (nthD 0 (bs s) 0 = (c.toNat : Int))) := by
  have hl := bs_length s
  have hsz : (ByteArray.mk #[c]).size = 1 := rfl
  have hp : Ev (fun k => stringslite_HasPrefix.f k s (ByteArray.mk #[c])) (decide (nthD 0 (bs s) 0 = c.toNat)) := by
    unfold stringslite_HasPrefix.f stringslite_HasPrefix.e
    by_cases h : 0 < s.size
    · refine Ev.tru (by rw [hsz]; simp; omega) (Ev.tru (by rw [hsz]; simp; omega) (Ev.eq ?_))
      rw [beq_bs, bs_extract, bs_one, hsz]
      apply decide_eq_decide.2
      have : (bs s).take 1 = [nthD 0 (bs s) 0] := by
        have := take_succ_get (a := bs s) (n := 0) (by omega)
        simpa using this
      simp [this]
    · refine Ev.fls (by rw [hsz]; simp; omega) (Ev.eq ?_)
      have hb : bs s = [] := bs_nil (by omega)
      rw [hb, nth_nil]
      have : c.toNat ≠ 0 := fun h => hc (UInt8.toNat_inj.1 h)
      exact (dec_f (by omega)).symm
  unfold strings_HasPrefix.f strings_HasPrefix.e
  exact Ev.bind hp Ev.pure

/-- A nought and some digits. -/
theorem atoi_ev {u : ByteArray} {d : List Int} (hu : bs u = 48 :: d) (ha : d.all dgt = true) (hd : d.length ≤ 6) : Ev (fun k => strconv_Atoi.f k u) ((dval d : Int), ()) := by
  have hl := bs_length u
  rw [hu, List.length_cons] at hl
  have h0 : nthD 0 (bs u) 0 = 48 := by rw [hu]; rfl
  have hb := bs_length u
  have hall : (bs u).all dgt = true := by rw [hu]; simp only [List.all_cons, ha, Bool.and_true]; decide
  have htb : toB u = bs u := rfl
  have loop : ∀ m i : Nat, m + i = u.size → Ev (fun k => intconv_Atoi.p0 k u ((dval ((bs u).take i) : Nat) : Int) (bs u) ((bs u).length : Int) (i : Int)) ((dval (bs u) : Int), ()) := by
    intro m
    induction m with
    | zero =>
      intro i hi
      refine Ev.turn (fun k => intconv_Atoi.p0_succ k _ _ _ _ _) ?_
      unfold intconv_Atoi.e0
      rw [bs_btI0, h0]
      refine Ev.fls (dec_f (by omega)) (Ev.tru (dec_t (by omega)) (Ev.fls (by simp) ?_))
      rw [List.take_of_length_le (by omega)]
      exact Ev.turn (fun k => intconv_Atoi.p39_succ k _) Ev.pure
    | succ m ih =>
      intro i hi
      have hil : i < (bs u).length := by omega
      have ih' := ih (i + 1) (by omega)
      rw [dval_take_succ hil] at ih'
      have hx : dgt (nthD 0 (bs u) i) = true := by
        rw [nthD_eq, List.getD_eq_getElem?_getD, List.getElem?_eq_getElem hil]
        exact List.all_eq_true.1 hall _ (List.getElem_mem hil)
      have hbd : dval ((bs u).take i) < 10 ^ 7 := by
        have h1 : ((bs u).take i).all dgt = true := List.all_eq_true.2 fun x hx => List.all_eq_true.1 hall x (List.mem_of_mem_take hx)
        have h2 := dval_bound h1
        rw [List.length_take] at h2
        exact Nat.lt_of_lt_of_le h2 (Nat.pow_le_pow_right (by omega) (by omega))
      refine Ev.turn (fun k => intconv_Atoi.p0_succ k _ _ _ _ _) ?_
      unfold intconv_Atoi.e0
      rw [Int.toNat_natCast]
      generalize nthD 0 (bs u) i = x at *
      simp only [dgt, Bool.and_eq_true, decide_eq_true_eq] at hx
      have w1 : IntKind.u8.wrap (x - 48) = x - 48 := by
        have : IntKind.u8.wrap (x - 48) = (x - 48) % 256 := by simp [IntKind.wrap, IntKind.signed, IntKind.bits]
        rw [this]; omega
      generalize hD : dval ((bs u).take i) = D at *
      have hbd' : D < 10000000 := hbd
      rw [w1, wrap_i64 (n := (i : Int) + 1) (by omega) (by omega), wrap_i64 (n := x - 48) (by omega) (by omega), wrap_i64 (n := (D : Int) * 10) (by omega) (by omega), wrap_i64 (by omega) (by omega)]
      rw [show (((D * 10 + (x - 48).toNat : Nat) : Nat) : Int) = (D : Int) * 10 + (x - 48) by omega] at ih'
      exact Ev.tru (dec_t (by omega)) (Ev.tru (by simp; omega) (Ev.fls (dec_f (by omega)) ih'))
  have hin : Ev (fun k => intconv_Atoi.f k u) ((dval d : Int), ()) := by
    have h := loop u.size 0 (by omega)
    rw [hu, dval_cons48, ← hu] at h
    have hs1 : ((u.size : Nat) : Int) < 19 := by omega
    unfold intconv_Atoi.f intconv_Atoi.e
    rw [bs_btI0, h0, htb]
    exact Ev.tru (dec_t (by omega)) (Ev.tru (dec_t hs1) (Ev.tru (dec_t (by omega)) (Ev.fls (by decide) (Ev.tru (dec_t (by omega)) (Ev.fls (by decide) (Ev.tru (dec_t (by omega)) h))))))
  unfold strconv_Atoi.f strconv_Atoi.e
  exact Ev.bind hin Ev.pure

end Go.FK


/- Decimal texts: the program's reading. -/
namespace Go.FK
set_option exponentiation.threshold 20000

/-- What the exponent's reader answers. -/
def XOk (t : List Int) (e : Int) (ok : Bool) : Prop := if ok = true then xval t = some e else xval t = none

theorem xval_of {t u : List Int} (hu : xbody t = u) : xval t = if u = [] ∨ u.all dgt = false ∨ 5000 < dval u then none else some (if nthD 0 t 0 = 45 then -(dval u : Int) else (dval u : Int)) := by
  subst hu; rfl

theorem dv_big : ∀ (l : List Int), nthD 0 l 0 ≠ 48 → l.all dgt = true → 4 < l.length → 5000 < dval l
  | [], _, _, h => by simp at h
  | x :: xs, h, ha, hl => by
    have hx : dgt x = true ∧ xs.all dgt = true := by simpa using ha
    have h0 : x ≠ 48 := h
    obtain ⟨h1, _⟩ := hx
    simp only [dgt, Bool.and_eq_true, decide_eq_true_eq] at h1
    have key : ∀ (l : List Int) (a : Nat), a * 10 ^ l.length ≤ l.foldl (fun a c => a * 10 + (c - 48).toNat) a := by
      intro l
      induction l with
      | nil => intro a; simp
      | cons y ys ih =>
        intro a
        have := ih (a * 10 + (y - 48).toNat)
        simp only [List.foldl_cons, List.length_cons]
        refine Nat.le_trans ?_ this
        rw [Nat.pow_succ, Nat.add_mul, Nat.mul_assoc, Nat.mul_comm 10]
        omega
    have hk := key xs (0 * 10 + (x - 48).toNat)
    have hp : 10 ^ 4 ≤ 10 ^ xs.length := Nat.pow_le_pow_right (by omega) (by simp at hl; omega)
    have h1' : 1 ≤ 0 * 10 + (x - 48).toNat := by omega
    have : 1 * 10 ^ 4 ≤ (0 * 10 + (x - 48).toNat) * 10 ^ xs.length := Nat.mul_le_mul h1' hp
    have e : dval (x :: xs) = xs.foldl (fun a c => a * 10 + (c - 48).toNat) (0 * 10 + (x - 48).toNat) := rfl
    rw [e]
    omega

theorem exponent_ev (s : ByteArray) (hs : s.size ≤ 1000) : ∃ e ok, Ev (fun k => approx_exponent.f k s) (e, ok) ∧ XOk (bs s) e ok := by
  have hl := bs_length s
  have hnil : bs (ByteArray.mk #[]) = [] := rfl
  have p17 : Ev (fun k => approx_exponent.p17 k ()) ((0 : Int), false) := Ev.turn (fun k => approx_exponent.p17_succ k _) Ev.pure
  have tailEv : ∀ u : ByteArray, u.size ≤ 1000 → ∀ (sg : Int) (t : List Int), xbody t = bs u → (sg = if nthD 0 t 0 = 45 then -1 else 1) → ∃ e ok, XOk t e ok ∧ Ev (fun k => (Option.bind (approx_digits.f k u) fun r3 =>
          (bif (r3.1.toList == (ByteArray.mk #[]).toList) then
            approx_exponent.p17 k ()
          else
            (bif (!(r3.2.toList == (ByteArray.mk #[]).toList)) then
              approx_exponent.p17 k ()
            else
              (Option.bind (strings_TrimLeft.f k r3.1 (ByteArray.mk #[48])) fun r4 =>
                (bif (decide ((r4.size : Int) > (4 : Int))) then
                  (some ((0 : Int), false))
                else
                  (bif (decide ((((ByteArray.mk #[48]).size + r4.size : Nat) : Int) > IntKind.i64.max)) then
                    none
                  else
                    (Option.bind (strconv_Atoi.f k ((ByteArray.mk #[48]) ++ r4)) fun r5 =>
                      (some ((IntKind.i64.wrap (sg * r5.1)), (decide (r5.1 ≤ (5000 : Int))))))))))))) (e, ok) := by
    intro u hu sg t hb hsg
    have hlu := bs_length u
    obtain ⟨x, y, h1, hx, hy⟩ := digits_ev u (by omega)
    have hxv := xval_of hb
    have htl := tw_len (bs u)
    by_cases c1 : bs x = []
    · refine ⟨0, false, ?_, Ev.bind h1 (Ev.tru (by rw [beq_bs, hnil]; exact dec_t c1) p17)⟩
      unfold XOk
      rw [if_neg (by simp), hxv]
      by_cases hz : bs u = []
      · rw [if_pos (.inl hz)]
      · have ha : (bs u).all dgt = false := by
          cases ha : (bs u).all dgt with
          | false => rfl
          | true => rw [hx, (tw_all ha).1] at c1; exact absurd c1 hz
        rw [if_pos (.inr (.inl ha))]
    by_cases c2 : ¬ bs y = []
    · refine ⟨0, false, ?_, Ev.bind h1 (Ev.fls (by rw [beq_bs, hnil]; exact dec_f c1) (Ev.tru (by rw [beq_bs, hnil, dec_f c2]; rfl) p17))⟩
      unfold XOk
      have ha : (bs u).all dgt = false := by
        cases ha : (bs u).all dgt with
        | false => rfl
        | true => rw [hy, (tw_all ha).2] at c2; exact absurd rfl c2
      rw [if_neg (by simp), hxv, if_pos (.inr (.inl ha))]
    have c2 : bs y = [] := Classical.not_not.1 c2
    have hxu : bs x = bs u := by
      have := List.takeWhile_append_dropWhile (p := dgt) (l := bs u)
      rw [← hx, ← hy, c2, List.append_nil] at this
      exact this
    have hall : (bs u).all dgt = true := by rw [← hxu, hx]; exact tw_dgt _
    obtain ⟨r, g1, g2⟩ := trim_zero x
    rw [hxu] at g2
    obtain ⟨a1, a2⟩ := d48_all (bs u)
    have a3 := d48_head (bs u)
    rw [← g2] at a1 a2 a3
    rw [hall] at a1
    have hlr := bs_length r
    have e1 : (!(y.toList == (ByteArray.mk #[]).toList)) = false := by rw [beq_bs, hnil, dec_t c2]; rfl
    have e0 : (x.toList == (ByteArray.mk #[]).toList) = false := by rw [beq_bs, hnil]; exact dec_f c1
    have hne : ¬ bs u = [] := by rw [← hxu]; exact c1
    by_cases c3 : 4 < r.size
    · refine ⟨0, false, ?_, Ev.bind h1 (Ev.fls e0 (Ev.fls e1 (Ev.bind g1 (Ev.tru (dec_t (by omega)) Ev.pure))))⟩
      unfold XOk
      have hbig : 5000 < dval (bs u) := by rw [← a2]; exact dv_big _ a3 a1 (by omega)
      rw [if_neg (by simp), hxv, if_pos (.inr (.inr hbig))]
    have hat := atoi_ev (u := ByteArray.mk #[48] ++ r) (d := bs r) (by rw [bs_append]; rfl) a1 (by omega)
    have hbd := dval_bound a1
    have hb4 : dval (bs r) < 10000 := Nat.lt_of_lt_of_le hbd (Nat.pow_le_pow_right (j := 4) (by omega) (by omega))
    have hmax : ¬ ((((ByteArray.mk #[48]).size + r.size : Nat) : Int) > IntKind.i64.max) := by
      have e : IntKind.i64.max = 9223372036854775807 := by decide
      have e2 : (ByteArray.mk #[48]).size = 1 := rfl
      rw [e, e2]; omega
    refine ⟨_, _, ?_, Ev.bind h1 (Ev.fls e0 (Ev.fls e1 (Ev.bind g1 (Ev.fls (dec_f (by omega)) (Ev.fls (dec_f hmax) (Ev.bind hat Ev.pure))))))⟩
    unfold XOk
    rw [hxv, hall, a2]
    rw [a2] at hb4
    by_cases c4 : 5000 < dval (bs u)
    · rw [if_neg (by simp; omega), if_pos (.inr (.inr c4))]
    · rw [if_pos (by simp; omega), if_neg (by simp; exact ⟨hne, by omega⟩)]
      congr 1
      subst hsg
      split
      · rw [wrap_i64 (by omega) (by omega)]; omega
      · rw [wrap_i64 (by omega) (by omega)]; omega
  have h45 := has_ev s 45 (by decide)
  have h43 := has_ev s 43 (by decide)
  have e45 : (((45 : UInt8).toNat : Nat) : Int) = 45 := rfl
  have e43 : (((43 : UInt8).toNat : Nat) : Int) = 43 := rfl
  rw [e45] at h45
  rw [e43] at h43
  have p11 : ∀ sg : Int, (nthD 0 (bs s) 0 = 45 ∨ nthD 0 (bs s) 0 = 43) → (sg = if nthD 0 (bs s) 0 = 45 then -1 else 1) → ∃ e ok, XOk (bs s) e ok ∧ Ev (fun k => approx_exponent.p11 k s sg) (e, ok) := by
    intro sg hc hsg
    have hpos : 0 < s.size := by
      rcases Nat.eq_zero_or_pos s.size with h | h
      · rw [bs_nil h, nth_nil] at hc; omega
      · exact h
    have hb : xbody (bs s) = bs (s.extract (Int.toNat (1 : Int)) (Int.toNat (s.size : Int))) := by
      rw [bs_extract, Int.toNat_natCast, ← hl, List.take_length]
      unfold xbody
      rw [if_pos hc]
      rfl
    obtain ⟨e, ok, h1, h2⟩ := tailEv _ (by rw [ByteArray.size_extract]; omega) sg (bs s) hb hsg
    refine ⟨e, ok, h1, Ev.turn (fun k => approx_exponent.p11_succ k _ _) ?_⟩
    unfold approx_exponent.e11
    exact Ev.tru (by simp; omega) h2
  unfold approx_exponent.f approx_exponent.e
  by_cases c : nthD 0 (bs s) 0 = 45
  · obtain ⟨e, ok, h1, h2⟩ := p11 (-1) (.inl c) (by rw [if_pos c])
    refine ⟨e, ok, Ev.bind h45 (Ev.tru (dec_t c) (Ev.turn (fun k => approx_exponent.p9_succ k _ _) ?_)), h1⟩
    unfold approx_exponent.e9
    exact Ev.tru (by decide) h2
  · by_cases c' : nthD 0 (bs s) 0 = 43
    · obtain ⟨e, ok, h1, h2⟩ := p11 1 (.inr c') (by rw [if_neg c])
      refine ⟨e, ok, Ev.bind h45 (Ev.fls (dec_f c) (Ev.turn (fun k => approx_exponent.p9_succ k _ _) ?_)), h1⟩
      unfold approx_exponent.e9
      exact Ev.fls (by decide) (Ev.bind h43 (Ev.tru (dec_t c') h2))
    · have hb : xbody (bs s) = bs s := by unfold xbody; rw [if_neg (by omega)]
      obtain ⟨e, ok, h1, h2⟩ := tailEv s hs 1 (bs s) hb (by rw [if_neg c])
      refine ⟨e, ok, Ev.bind h45 (Ev.fls (dec_f c) (Ev.turn (fun k => approx_exponent.p9_succ k _ _) ?_)), h1⟩
      unfold approx_exponent.e9
      exact Ev.fls (by decide) (Ev.bind h43 (Ev.fls (dec_f c') h2))

/-- What the reader of a text without sign answers. -/
def DOk (o : Option (Nat × Int)) (r : RR) (ok : Bool) : Prop := match o with
  | none => ok = false
  | some (d, e) => ok = true ∧ Rt 20000 r (dv d e)

theorem LQ_dv {d : Nat} {e : Int} {N : Nat} (hd : FK.L d ≤ N) (he : e.natAbs ≤ 6100) : LQ (dv d e) ≤ N + 6110 := by
  have h1 := LQ_mul (d : Rat) (p10 e)
  have h2 := LQ_natR d
  have h3 := LQ_p10 (N := 6100) he
  unfold dv
  omega

theorem decimal_ev (s : ByteArray) (hs : s.size ≤ 1000) : ∃ r ok, Ev (fun k => approx_decimal.f k s) (r, ok) ∧ DOk (dspec (bs s)) r ok := by
  have hl := bs_length s
  have hnil : bs (ByteArray.mk #[]) = [] := rfl
  have htl := tw_len (bs s)
  -- the number, put together
  have fin : ∀ (x y : ByteArray) (e : Int), (bs x).all dgt = true → (bs y).all dgt = true → x.size ≤ 1000 → y.size ≤ 1000 → e.natAbs ≤ 5000 → ∃ r, Rt 20000 r (dv (dval (bs x ++ bs y)) (e - (bs y).length)) ∧
      Ev (fun k => bif (decide (((x.size + y.size : Nat) : Int) > IntKind.i64.max)) then none
      else
        (Option.bind (approx_number.f k (x ++ y)) fun r4 =>
          (Option.bind (approx_ten.f k (IntKind.i64.wrap (e - (y.size : Int)))) fun r5 =>
            (Option.bind (ratio_Mul.f k r4 r5) fun r6 =>
              (some (r6, true)))))) (r, true) := by
    intro x y e hx hy hxs hys he
    have hlx := bs_length x
    have hly := bs_length y
    have hsz : (x ++ y).size = x.size + y.size := by rw [← bs_length, bs_append, List.length_append]; omega
    obtain ⟨r, h1, h2⟩ := number_ev' (s := x ++ y) (by omega) (by rw [bs_append, List.all_append, hx, hy]; rfl)
    have hmax : ¬ ((((x.size + y.size : Nat) : Int)) > IntKind.i64.max) := by
      have e : IntKind.i64.max = 9223372036854775807 := by decide
      rw [e]; omega
    rw [bs_append] at h2
    have h3 := aten_ev (e - (y.size : Int)) (by omega)
    have hL := LQ_p10 (n := e - (y.size : Int)) (N := 6000) (by omega)
    have hmul := (h2.mono (M' := 7000) (by omega)).mul (Rt.of (M := 7000) (q := p10 (e - (y.size : Int))) (by omega)) (by omega) (by omega)
    have hL1 := (h2.mono (M' := 7000) (by omega)).LQ (by omega)
    have hL2 := LQ_mul ((dval (bs x ++ bs y) : Nat) : Rat) (p10 (e - (y.size : Int)))
    rw [hly]
    refine ⟨_, Rt.of (q := dv (dval (bs x ++ bs y)) (e - (y.size : Int))) (by unfold dv; have := LQ_natR (dval (bs x ++ bs y)); have := L_dval (l := bs x ++ bs y) (by rw [List.all_append, hx, hy]; rfl); rw [List.length_append] at this; omega), Ev.fls (dec_f hmax) (Ev.bind h1 ?_)⟩
    rw [wrap_i64 (by omega) (by omega)]
    exact Ev.bind h3 (Ev.bind hmul Ev.pure)
  -- behind the digits
  have p21 : ∀ (x y z : ByteArray), (bs x).all dgt = true → (bs y).all dgt = true → x.size ≤ 1000 → y.size ≤ 1000 → z.size ≤ 1000 → ∃ r ok, Ev (fun k => approx_decimal.p21 k noRat x z y) (r, ok) ∧
      DOk (match xtail (bs z) with | none => none | some e => some (dval (bs x ++ bs y), e - (bs y).length)) r ok := by
    intro x y z hx hy hxs hys hzs
    have hlz := bs_length z
    have p29 : (nthD 0 (bs z) 0 = 101 ∨ nthD 0 (bs z) 0 = 69) → 0 < z.size → ∃ r ok, Ev (fun k => approx_decimal.p29 k noRat x z y) (r, ok) ∧
        DOk (match xtail (bs z) with | none => none | some e => some (dval (bs x ++ bs y), e - (bs y).length)) r ok := by
      intro hc hz
      have hb : bs (z.extract (Int.toNat (1 : Int)) (Int.toNat (z.size : Int))) = (bs z).drop 1 := by
        rw [bs_extract, Int.toNat_natCast, ← hlz, List.take_length]
        rfl
      have hne : ¬ bs z = [] := fun h => by rw [h] at hlz; simp at hlz; omega
      obtain ⟨e, ok, h1, h2⟩ := exponent_ev (z.extract (Int.toNat (1 : Int)) (Int.toNat (z.size : Int))) (by rw [ByteArray.size_extract]; omega)
      rw [hb] at h2
      have hxt : xtail (bs z) = xval ((bs z).drop 1) := by unfold xtail; rw [if_neg hne, if_pos hc]
      rw [hxt]
      unfold XOk at h2
      cases ok with
      | false =>
        rw [if_neg (by simp)] at h2
        refine ⟨noRat, false, Ev.turn (fun k => approx_decimal.p29_succ k _ _ _ _) ?_, by rw [h2]; rfl⟩
        unfold approx_decimal.e29
        exact Ev.tru (by simp; omega) (Ev.bind h1 (Ev.tru rfl Ev.pure))
      | true =>
        rw [if_pos rfl] at h2
        have hab := xval_abs h2
        obtain ⟨r, g1, g2⟩ := fin x y e hx hy hxs hys (by omega)
        refine ⟨r, true, Ev.turn (fun k => approx_decimal.p29_succ k _ _ _ _) ?_, by rw [h2]; exact ⟨rfl, g1⟩⟩
        unfold approx_decimal.e29
        exact Ev.tru (by simp; omega) (Ev.bind h1 (Ev.fls rfl g2))
    by_cases hz : bs z = []
    · obtain ⟨r, g1, g2⟩ := fin x y 0 hx hy hxs hys (by omega)
      have hxt : xtail (bs z) = some 0 := by unfold xtail; rw [if_pos hz]
      refine ⟨r, true, Ev.turn (fun k => approx_decimal.p21_succ k _ _ _ _) ?_, by rw [hxt]; exact ⟨rfl, g1⟩⟩
      unfold approx_decimal.e21
      exact Ev.fls (by rw [beq_bs, hnil, dec_t hz]; rfl) g2
    · have hpos : 0 < z.size := by
        rcases Nat.eq_zero_or_pos z.size with h | h
        · exact absurd (bs_nil h) hz
        · exact h
      have e0 : (!(z.toList == (ByteArray.mk #[]).toList)) = true := by rw [beq_bs, hnil, dec_f hz]; rfl
      by_cases c1 : nthD 0 (bs z) 0 = 101
      · obtain ⟨r, ok, g1, g2⟩ := p29 (.inl c1) hpos
        refine ⟨r, ok, Ev.turn (fun k => approx_decimal.p21_succ k _ _ _ _) ?_, g2⟩
        unfold approx_decimal.e21
        rw [bs_btI0]
        exact Ev.tru e0 (Ev.tru (dec_t (by omega)) (Ev.fls (by rw [dec_t c1]; rfl) g1))
      by_cases c2 : nthD 0 (bs z) 0 = 69
      · obtain ⟨r, ok, g1, g2⟩ := p29 (.inr c2) hpos
        refine ⟨r, ok, Ev.turn (fun k => approx_decimal.p21_succ k _ _ _ _) ?_, g2⟩
        unfold approx_decimal.e21
        rw [bs_btI0]
        exact Ev.tru e0 (Ev.tru (dec_t (by omega)) (Ev.tru (by rw [dec_f c1]; rfl) (Ev.tru (dec_t (by omega)) (Ev.fls (by rw [dec_t c2]; rfl) g1))))
      · have hxt : xtail (bs z) = none := by unfold xtail; rw [if_neg hz, if_neg (by omega)]
        refine ⟨noRat, false, Ev.turn (fun k => approx_decimal.p21_succ k _ _ _ _) ?_, by rw [hxt]; rfl⟩
        unfold approx_decimal.e21
        rw [bs_btI0]
        exact Ev.tru e0 (Ev.tru (dec_t (by omega)) (Ev.tru (by rw [dec_f c1]; rfl) (Ev.tru (dec_t (by omega)) (Ev.tru (by rw [dec_f c2]; rfl) Ev.pure))))
  obtain ⟨x, y, h1, hx, hy⟩ := digits_ev s (by omega)
  have hlx := bs_length x
  have hly := bs_length y
  rw [hx] at hlx
  rw [hy] at hly
  have hdx : (bs x).all dgt = true := by rw [hx]; exact tw_dgt _
  unfold approx_decimal.f approx_decimal.e
  by_cases c1 : bs x = []
  · refine ⟨noRat, false, Ev.bind h1 (Ev.tru (by rw [beq_bs, hnil]; exact dec_t c1) Ev.pure), ?_⟩
    unfold dspec
    rw [← hx, if_pos (.inl c1)]
    rfl
  have e0 : (x.toList == (ByteArray.mk #[]).toList) = false := by rw [beq_bs, hnil]; exact dec_f c1
  have hcp := prefix_ev y 46
  have e46 : (((46 : UInt8).toNat : Nat) : Int) = 46 := rfl
  rw [e46] at hcp
  by_cases c2 : nthD 0 (bs y) 0 = 46
  · have hpos : 0 < y.size := by
      rcases Nat.eq_zero_or_pos y.size with h | h
      · rw [bs_nil h, nth_nil] at c2; omega
      · exact h
    rw [if_pos ⟨c2, hpos⟩] at hcp
    have hb : bs (y.extract 1 y.size) = (bs y).drop 1 := by rw [bs_extract, ← bs_length y, List.take_length]
    obtain ⟨u, v, g1, gu, gv⟩ := digits_ev (y.extract 1 y.size) (by rw [ByteArray.size_extract]; omega)
    rw [hb] at gu gv
    have hfr : dfr (bs s) = bs u := by unfold dfr; rw [← hy, if_pos c2, gu]
    have hre : drest (bs s) = bs v := by unfold drest; rw [← hy, if_pos c2, gv]
    have htu := tw_len ((bs y).drop 1)
    rw [← gu, ← gv, bs_length, bs_length, List.length_drop, bs_length] at htu
    by_cases c3 : bs u = []
    · refine ⟨noRat, false, Ev.bind h1 (Ev.fls e0 (Ev.bind hcp (Ev.tru rfl (Ev.bind g1 (Ev.tru (by rw [beq_bs, hnil]; exact dec_t c3) Ev.pure))))), ?_⟩
      unfold dspec
      rw [hfr, ← hy, if_pos (.inr ⟨c2, c3⟩)]
      rfl
    · obtain ⟨r, ok, k1, k2⟩ := p21 x u v hdx (by rw [gu]; exact tw_dgt _) (by omega) (by omega) (by omega)
      refine ⟨r, ok, Ev.bind h1 (Ev.fls e0 (Ev.bind hcp (Ev.tru rfl (Ev.bind g1 (Ev.fls (by rw [beq_bs, hnil]; exact dec_f c3) k1))))), ?_⟩
      unfold dspec
      rw [hfr, hre, ← hx, if_neg (fun h => h.elim c1 fun h => c3 h.2)]
      exact k2
  · rw [if_neg (fun h => c2 h.1)] at hcp
    have hfr : dfr (bs s) = [] := by unfold dfr; rw [← hy, if_neg c2]
    have hre : drest (bs s) = bs y := by unfold drest; rw [← hy, if_neg c2]
    obtain ⟨r, ok, k1, k2⟩ := p21 x (ByteArray.mk #[]) y hdx rfl (by omega) (by show 0 ≤ _; omega) (by omega)
    refine ⟨r, ok, Ev.bind h1 (Ev.fls e0 (Ev.bind hcp (Ev.fls rfl k1))), ?_⟩
    unfold dspec
    rw [hfr, hre, ← hx, ← hy, if_neg (fun h => h.elim c1 fun h => c2 h.1)]
    exact k2

end Go.FK


/- Decimal texts: the reference's reading. -/
namespace Go.FK
set_option exponentiation.threshold 20000

theorem and1i {x : Nat} (hx : x < 9223372036854775808) : bitsI .and .i64 (x : Int) 1 = ((x % 2 : Nat) : Int) := by
  unfold bitsI
  have e : (BitVec.ofInt IntKind.i64.bits (x : Int) &&& BitVec.ofInt IntKind.i64.bits 1).toNat = x % 2 := by
    have e1 : IntKind.i64.bits = 64 := rfl
    rw [e1, BitVec.toNat_and]
    have e2 : (BitVec.ofInt 64 (x : Int)).toNat = x := by
      rw [BitVec.toNat_ofInt]
      have : ((x : Int) % ((2 ^ 64 : Nat) : Int)).toNat = x := by omega
      exact this
    have e3 : (BitVec.ofInt 64 1).toNat = 1 := by decide
    rw [e2, e3]
    exact Nat.and_one_is_mod x
  show IntKind.i64.wrap (((BitVec.ofInt IntKind.i64.bits (x : Int) &&& BitVec.ofInt IntKind.i64.bits 1).toNat : Nat) : Int) = _
  rw [e, wrap_i64 (by omega) (by omega)]

theorem rpw_p0 (n : Nat) (hn : n ≤ 4096) : ∀ i : Nat, i ≤ 13 → Ev (fun k => ref01_Pow.p0 k [10] (n : Int) (lim (10 ^ (n / 2 ^ i))) ((i : Int) - 1)) (lim (10 ^ n), (0 : Int)) := by
  intro i
  induction i with
  | zero =>
    intro _
    refine Ev.turn (fun k => ref01_Pow.p0_succ k _ _ _ _) ?_
    unfold ref01_Pow.e0
    have l := L_ten n
    have h1 : Nt 5000 (lim (10 ^ (n / 2 ^ 0))) (10 ^ n) := by
      rw [Nat.pow_zero, Nat.div_one]
      exact Nt.of (by omega)
    exact Ev.fls (by simp) (Ev.bind (h1.rNorm (by omega)) Ev.pure)
  | succ i ih =>
    intro hi
    have ih' := ih (by omega)
    have hs := half_step n i
    have hle : n / 2 ^ (i + 1) ≤ n := Nat.div_le_self _ _
    have l := L_ten (n / 2 ^ (i + 1))
    have h1 : Nt 20000 (lim (10 ^ (n / 2 ^ (i + 1)))) (10 ^ (n / 2 ^ (i + 1))) := Nt.of (by omega)
    have h10 : Nt 20000 [10] 10 := (Nt.one (by simp [B])).mono (by omega)
    have hm := h1.rmul h1 (by omega)
    rw [← Nat.pow_add] at hm
    have l2 := L_ten (n / 2 ^ (i + 1) + n / 2 ^ (i + 1))
    have h2 : Nt 20000 (lim (10 ^ (n / 2 ^ (i + 1) + n / 2 ^ (i + 1)))) (10 ^ (n / 2 ^ (i + 1) + n / 2 ^ (i + 1))) := Nt.of (by omega)
    have hm2 := h2.rmul h10 (by omega)
    rw [← Nat.pow_succ] at hm2
    have e0 : ((i + 1 : Nat) : Int) - 1 = (i : Int) := by omega
    have e1 : IntKind.u64.wrap (i : Int) = (i : Int) := wrap_u64_id (by omega) (by omega)
    have e2 : Int.fdiv (n : Int) (2 ^ min i 64) = ((n / 2 ^ i : Nat) : Int) := by
      rw [Nat.min_eq_left (by omega), Int.fdiv_eq_ediv_of_nonneg _ (Int.le_of_lt (Int.pow_pos (by omega))), Int.natCast_ediv, Int.natCast_pow]; rfl
    have hlt : n / 2 ^ i ≤ n := Nat.div_le_self _ _
    have p13 : ∀ m, m = n / 2 ^ i → Ev (fun k => ref01_Pow.p13 k [10] (n : Int) (lim (10 ^ m)) (i : Int)) (lim (10 ^ n), (0 : Int)) := by
      intro m hm
      subst hm
      refine Ev.turn (fun k => ref01_Pow.p13_succ k _ _ _ _) ?_
      unfold ref01_Pow.e13
      have e3 : IntKind.i64.wrap ((i : Int) - 1) = (i : Int) - 1 := wrap_i64 (by omega) (by omega)
      rw [e3]
      exact ih'
    refine Ev.turn (fun k => ref01_Pow.p0_succ k _ _ _ _) ?_
    unfold ref01_Pow.e0
    simp only [e0, e1, Int.toNat_natCast, e2]
    rw [and1i (by omega)]
    refine Ev.tru (dec_t (by omega)) (Ev.bind hm (Ev.fls (dec_f (by omega)) ?_))
    have hb : n / 2 ^ i % 2 = (n.testBit i).toNat := by rw [hs]; cases n.testBit i <;> simp <;> omega
    cases hbit : n.testBit i with
    | true =>
      rw [hbit] at hs hb
      simp only [Bool.toNat_true] at hs hb
      refine Ev.tru (dec_t (by omega)) (Ev.bind hm2 (p13 _ (by omega)))
    | false =>
      rw [hbit] at hs hb
      simp only [Bool.toNat_false] at hs hb
      exact Ev.fls (dec_f (by omega)) (p13 _ (by omega))

theorem rpw_ev {n : Nat} (hn : n ≤ 4096) : Ev (fun k => ref01_Pow.f k [10] (n : Int)) (lim (10 ^ n), (0 : Int)) := by
  have h := rpw_p0 n hn 13 (by omega)
  have e : n / 2 ^ 13 = 0 := Nat.div_eq_of_lt (by omega)
  rw [e, Nat.pow_zero, lim_one] at h
  unfold ref01_Pow.f ref01_Pow.e
  exact Ev.fls (dec_f (by omega)) (Ev.fls (dec_f (by omega)) h)


theorem rten_ev (n : Nat) (hn : n ≤ 100000) : Ev (fun k => ref04_ten.f k (n : Int)) (lim (10 ^ n)) := by
  have loop : ∀ N j m : Nat, j ≤ N → j + m = n → Ev (fun k => ref04_ten.p0 k (j : Int) (lim (10 ^ m))) (lim (10 ^ n)) := by
    intro N
    induction N with
    | zero =>
      intro j m hj hm
      obtain rfl : j = 0 := by omega
      rw [show m = n by omega]
      refine Ev.turn (fun k => ref04_ten.p0_succ k _ _) ?_
      unfold ref04_ten.e0
      exact Ev.fls (by simp) Ev.pure
    | succ N ih =>
      intro j m hj hm
      by_cases h0 : j = 0
      · exact ih j m (by omega) hm
      have p13 : ∀ c : Nat, c ≤ 1000 → c ≤ j → 1 ≤ c → Ev (fun k => ref04_ten.p13 k (j : Int) (lim (10 ^ m)) (c : Int)) (lim (10 ^ n)) := by
        intro c hc hcj hc1
        refine Ev.turn (fun k => ref04_ten.p13_succ k _ _ _) ?_
        unfold ref04_ten.e13
        have l1 := L_ten m
        have l2 := L_ten c
        have n1 : Nt 100010 (lim (10 ^ m)) (10 ^ m) := Nt.of (by omega)
        have n2 : Nt 100010 (lim (10 ^ c)) (10 ^ c) := Nt.of (by omega)
        refine Ev.bind (rpw_ev (by omega)) (Ev.bind (n1.rmul n2 (by omega)) ?_)
        rw [← Nat.pow_add, wrap_i64 (by omega) (by omega)]
        have := ih (j - c) (m + c) (by omega) (by omega)
        rwa [show (((j - c : Nat) : Nat) : Int) = (j : Int) - (c : Int) by omega] at this
      refine Ev.turn (fun k => ref04_ten.p0_succ k _ _) ?_
      unfold ref04_ten.e0
      refine Ev.tru (dec_t (by omega)) ?_
      by_cases h : (1000 : Int) < (j : Int)
      · exact Ev.tru (dec_t h) (p13 1000 (by omega) (by omega) (by omega))
      · exact Ev.fls (dec_f h) (p13 j (by omega) (by omega) (by omega))
  unfold ref04_ten.f ref04_ten.e
  have e : ([1] : List Int) = lim (10 ^ 0) := lim_one.symm
  rw [e]
  exact loop n n 0 (Nat.le_refl _) (by omega)

theorem rtens_ev (n : Int) (hn : n.natAbs ≤ 100000) : ∃ r, Ev (fun k => ref04_tens.f k n) r ∧ r.1.1 = false ∧ ∃ a b : Nat, Nt 100010 r.1.2 a ∧ Nt 100010 r.2 b ∧ b ≠ 0 ∧ (∀ d : Nat, mkRat ((d * a : Nat) : Int) b = dv d n) ∧ FK.L a ≤ n.natAbs + 1 ∧ FK.L b ≤ n.natAbs + 1 ∧ r.1.2.length ≤ n.natAbs + 1 ∧ r.2.length ≤ n.natAbs + 1 := by
  have l := L_ten n.natAbs
  have h1 := rten_ev n.natAbs hn
  have l1 : FK.L 1 = 1 := L_one
  have n1 : Nt 100010 ([1] : List Int) 1 := (Nt.one (by simp [B])).mono (by omega)
  have nt : Nt 100010 (lim (10 ^ n.natAbs)) (10 ^ n.natAbs) := Nt.of (by omega)
  have hlen : (lim (10 ^ n.natAbs)).length ≤ n.natAbs + 1 := l
  have hne : (10 ^ n.natAbs : Nat) ≠ 0 := Nat.ne_of_gt (Nat.pow_pos (by omega))
  unfold ref04_tens.f ref04_tens.e
  by_cases h : n < 0
  · refine ⟨((false, [1]), lim (10 ^ n.natAbs)), Ev.tru (dec_t h) (Ev.bind ?_ Ev.pure), rfl, 1, 10 ^ n.natAbs, n1, nt, hne, ?_, by omega, l, by simp, hlen⟩
    · rw [wrap_i64 (by omega) (by omega), show 0 - n = ((n.natAbs : Nat) : Int) by omega]
      exact h1
    · intro d
      unfold dv p10
      rw [if_pos h, Nat.mul_one, Rat.mkRat_eq_div, Rat.div_def]
      rfl
  · refine ⟨((false, lim (10 ^ n.natAbs)), [1]), Ev.fls (dec_f h) (Ev.bind ?_ Ev.pure), rfl, 10 ^ n.natAbs, 1, nt, n1, by omega, ?_, l, by omega, hlen, by simp⟩
    · have e : n = ((n.natAbs : Nat) : Int) := by omega
      rw [← e] at h1
      exact h1
    · intro d
      unfold dv p10
      rw [if_neg h]
      have : mkRat (((d * 10 ^ n.natAbs : Nat) : Int)) 1 = ((((d * 10 ^ n.natAbs : Nat) : Int)) : Rat) := Rat.mkRat_self (((((d * 10 ^ n.natAbs : Nat) : Int)) : Rat))
      rw [this, Rat.intCast_natCast, Rat.natCast_mul]

end Go.FK


/- ApproxReads: any text: the nearest float, or why not. -/
namespace Go.FK
set_option exponentiation.threshold 20000

/-! ### The whole text -/
def dneg (l : List Int) : Bool := decide (nthD 0 l 0 = 45)
def dbody (l : List Int) : List Int := if nthD 0 l 0 = 45 then l.drop 1 else l

theorem p10_pos (n : Int) : 0 < p10 n := by
  have h : (0 : Rat) < ((10 ^ n.natAbs : Nat) : Rat) := by exact_mod_cast Nat.pow_pos (by omega)
  unfold p10
  split
  · exact Rat.inv_pos.2 h
  · exact h
theorem dv_nonneg (d : Nat) (e : Int) : ¬ dv d e < 0 := by
  rw [Rat.not_lt]
  exact Rat.mul_nonneg Rat.natCast_nonneg (Rat.le_of_lt (p10_pos e))

/-- The float that a text says: by its number. -/
def rdB (neg : Bool) (p : Rat) (k : Nat) (a : Int) : Nat := if neg = true then nrB p k a + 9223372036854775808 else nrB p k a

theorem nrB_small {p : Rat} (hp : ¬ p < 0) {k : Nat} {a : Int} (h : Pl p k a) : nrB p k a < 9223372036854775808 := by
  have := h.le
  unfold nrB fb nr
  rw [dec_f hp]
  simp only [Bool.false_eq_true, if_false]
  split <;> omega

theorem aread_ev {s : ByteArray} (hs : s.size ≤ 1000) {d : Nat} {e : Int} (h : dspec (dbody (bs s)) = some (d, e)) {k : Nat} {a : Int} (hp : Pl (dv d e) k a) :
    Ev (fun f => approx_Read.f f s) (rdB (dneg (bs s)) (dv d e) k a, (0 : Int)) := by
  have hl := bs_length s
  have hcp := prefix_ev s 45
  have e45 : (((45 : UInt8).toNat : Nat) : Int) = 45 := rfl
  rw [e45] at hcp
  obtain ⟨s', h1, h2, h3⟩ : ∃ s', Ev (fun k => strings_CutPrefix.f k s (ByteArray.mk #[45])) (s', dneg (bs s)) ∧ bs s' = dbody (bs s) ∧ s'.size ≤ 1000 := by
    unfold dneg dbody
    by_cases c : nthD 0 (bs s) 0 = 45
    · have hpos : 0 < s.size := by
        rcases Nat.eq_zero_or_pos s.size with h | h
        · rw [bs_nil h, nth_nil] at c; omega
        · exact h
      rw [if_pos ⟨c, hpos⟩] at hcp
      rw [if_pos c, dec_t c]
      exact ⟨_, hcp, by rw [bs_extract, ← hl, List.take_length], by rw [ByteArray.size_extract]; omega⟩
    · rw [if_neg (fun h => c h.1)] at hcp
      rw [if_neg c, dec_f c]
      exact ⟨_, hcp, rfl, hs⟩
  obtain ⟨r, ok, g1, g2⟩ := decimal_ev s' h3
  rw [h2, h] at g2
  obtain ⟨rfl, hr⟩ := g2
  have hn := hr.nearest (by omega) (by omega) hp
  have hlt := nrB_small (dv_nonneg d e) hp
  unfold approx_Read.f approx_Read.e rdB
  refine Ev.fls (dec_f (by omega)) (Ev.bind h1 (Ev.bind g1 (Ev.fls rfl ?_)))
  cases hneg : dneg (bs s) with
  | true =>
    refine Ev.tru rfl (Ev.bind hn ?_)
    rw [if_pos rfl, fNeg_eq (by omega), if_pos hlt]
    exact Ev.pure
  | false =>
    rw [if_neg (by simp)]
    exact Ev.fls rfl (Ev.bind hn Ev.pure)

theorem pl_of (d : Nat) {e : Int} (hd : FK.L d ≤ 1000) (he : e.natAbs ≤ 6100) : ∃ k a, Pl (dv d e) k a := by
  obtain ⟨k, a, h, _⟩ := (Rt.of (M := 8000) (q := dv d e) (by have := LQ_dv hd he; omega)).pl (by omega) (by omega)
  exact ⟨k, a, h⟩

theorem dspec_some {l : List Int} {d : Nat} {e : Int} (h : dspec l = some (d, e)) : d < 10 ^ l.length ∧ FK.L d ≤ l.length ∧ e.natAbs ≤ 5000 + l.length := by
  unfold dspec at h
  split at h
  · cases h
  · split at h
    · cases h
    · rename_i e' hx
      simp only [Option.some.injEq, Prod.mk.injEq] at h
      obtain ⟨h1, h2⟩ := h
      have ha : (l.takeWhile dgt ++ dfr l).all dgt = true := by
        rw [List.all_append, tw_dgt]
        unfold dfr
        split
        · rw [tw_dgt]; rfl
        · rfl
      have hln : (l.takeWhile dgt ++ dfr l).length ≤ l.length := by
        rw [List.length_append]
        have h3 := tw_len l
        unfold dfr
        split
        · have h4 := tw_len ((l.dropWhile dgt).drop 1)
          rw [List.length_drop] at h4
          omega
        · simp; omega
      have hb := dval_bound ha
      have hL := L_dval ha
      have hab := xtail_abs hx
      rw [h1] at hb hL
      rw [List.length_append] at hln
      refine ⟨Nat.lt_of_lt_of_le hb (Nat.pow_le_pow_right (by omega) (by rw [List.length_append]; exact hln)), by rw [List.length_append] at hL; omega, by omega⟩

theorem dbody_len (l : List Int) : (dbody l).length ≤ l.length := by
  unfold dbody
  split
  · rw [List.length_drop]; omega
  · omega

end Go.FK


/- Numerals: their letters. -/
namespace Go.FK
set_option exponentiation.threshold 20000

theorem chr_eq : ∀ n : Nat, n < 10 → chr n = 48 + (n : Int) := by decide +kernel
theorem bs_push (s : ByteArray) (c : UInt8) : bs (s.push c) = bs s ++ [(c.toNat : Int)] := by
  unfold bs
  rw [ByteArray.data_push, Array.toList_push, List.map_append]
  rfl
theorem bs_ofB_from : ∀ (l : List Int) (s : ByteArray), (∀ x ∈ l, 0 ≤ x ∧ x < 256) → bs (l.foldl (fun s n => s.push (UInt8.ofNat n.toNat)) s) = bs s ++ l
  | [], s, _ => by simp
  | x :: xs, s, h => by
    have hx := h x (by simp)
    rw [List.foldl_cons, bs_ofB_from xs _ (fun y hy => h y (by simp [hy])), bs_push]
    have : ((UInt8.ofNat x.toNat).toNat : Int) = x := by
      rw [UInt8.toNat_ofNat']
      have : x.toNat % 2 ^ 8 = x.toNat := Nat.mod_eq_of_lt (by omega)
      rw [this]; omega
    rw [this, List.append_assoc]
    rfl
theorem bs_ofB {l : List Int} (h : ∀ x ∈ l, 0 ≤ x ∧ x < 256) : bs (ofB l) = l := by
  unfold ofB
  rw [bs_ofB_from l _ h]
  rfl
theorem dg_mem (n : Nat) : ∀ x ∈ dg n, dgt x = true := by
  induction n using Nat.strongRecOn with
  | _ n ih =>
    intro x hx
    by_cases h : n = 0
    · rw [h, dg_zero] at hx; cases hx
    · rw [dg_pos h] at hx
      rcases List.mem_cons.1 hx with hx | hx
      · subst hx
        rw [chr_eq _ (Nat.mod_lt _ (by omega))]
        unfold dgt
        have := Nat.mod_lt n (by omega : 0 < 10)
        simp; omega
      · exact ih _ (by omega) x hx
/-- The digits, the highest first. -/
def dd (n : Nat) : List Int := if n = 0 then [48] else (dg n).reverse
theorem dgt_rng {x : Int} (h : dgt x = true) : 48 ≤ x ∧ x ≤ 57 := by
  unfold dgt at h
  simpa using h
theorem bs_txt (n : Nat) : bs (txt n) = dd n := by
  unfold txt fin dd
  by_cases h : n = 0
  · subst h
    rw [dg_zero, if_pos rfl, if_pos rfl]
    rfl
  · have : dg n ≠ [] := by rw [dg_pos h]; simp
    rw [if_neg this, if_neg h]
    exact bs_ofB fun x hx => by
      have := dgt_rng (dg_mem n x (by simpa using hx))
      omega
theorem dd_snoc (n : Nat) : ∃ l, dd n = l ++ [48 + ((n % 10 : Nat) : Int)] ∧ (l = [] ∨ l = dd (n / 10)) := by
  by_cases h : n = 0
  · subst h
    exact ⟨[], rfl, .inl rfl⟩
  · unfold dd
    rw [if_neg h, dg_pos h, List.reverse_cons, chr_eq _ (Nat.mod_lt _ (by omega))]
    refine ⟨_, rfl, ?_⟩
    by_cases h1 : n / 10 = 0
    · left; rw [h1, dg_zero]; rfl
    · right; rw [if_neg h1]
theorem dd_all (n : Nat) : (dd n).all dgt = true := by
  rw [List.all_eq_true]
  intro x hx
  unfold dd at hx
  split at hx
  · simp only [List.mem_singleton] at hx; subst hx; decide
  · exact dg_mem n x (by simpa using hx)
theorem dd_val : ∀ n : Nat, dval (dd n) = n := by
  intro n
  induction n using Nat.strongRecOn with
  | _ n ih =>
    by_cases h : n = 0
    · subst h; decide
    · unfold dd
      rw [if_neg h, dg_pos h, List.reverse_cons, dval_snoc, chr_eq _ (Nat.mod_lt _ (by omega))]
      by_cases h1 : n / 10 = 0
      · rw [h1, dg_zero]
        show 0 * 10 + _ = _
        omega
      · have := ih (n / 10) (by omega)
        unfold dd at this
        rw [if_neg h1] at this
        rw [this]
        omega
theorem dd_ne (n : Nat) : dd n ≠ [] := by
  obtain ⟨l, h, _⟩ := dd_snoc n
  rw [h]; simp
/-- No nought at the front of a longer one. -/
theorem dd_head : ∀ n : Nat, 0 < n → nthD 0 (dd n) 0 ≠ 48 := by
  intro n
  induction n using Nat.strongRecOn with
  | _ n ih =>
    intro hn
    obtain ⟨l, h, hl⟩ := dd_snoc n
    by_cases h1 : n / 10 = 0
    · unfold dd
      rw [if_neg (by omega), dg_pos (by omega), h1, dg_zero, chr_eq _ (Nat.mod_lt _ (by omega))]
      show (48 + ((n % 10 : Nat) : Int)) ≠ 48
      omega
    · have h2 := ih (n / 10) (by omega) (by omega)
      have e : dd n = dd (n / 10) ++ [48 + ((n % 10 : Nat) : Int)] := by
        unfold dd
        rw [if_neg (by omega), if_neg h1, dg_pos (by omega), List.reverse_cons, chr_eq _ (Nat.mod_lt _ (by omega))]
      rw [e]
      have hne := dd_ne (n / 10)
      cases hd : dd (n / 10) with
      | nil => exact absurd hd hne
      | cons x xs => rw [hd] at h2; exact h2
theorem dd_length10 : ∀ (t n : Nat), n < 10 ^ t → (dg n).length ≤ t := by
  intro t
  induction t with
  | zero => intro n hn; obtain rfl : n = 0 := by simpa using hn
            rw [dg_zero]; simp
  | succ t ih =>
    intro n hn
    by_cases h : n = 0
    · subst h; rw [dg_zero]; simp
    · have := ih (n / 10) (by rw [Nat.pow_succ] at hn; omega)
      rw [dg_pos h, List.length_cons]; omega
/-! ### What is read -/
theorem dval_append (a : List Int) : ∀ (n : Nat) (b : List Int), b.length = n → dval (a ++ b) = dval a * 10 ^ b.length + dval b := by
  intro n
  induction n with
  | zero => intro b hb; rw [List.length_eq_zero_iff.1 hb]; simp [dval]
  | succ n ih =>
    intro b hb
    obtain ⟨c, x, rfl⟩ : ∃ c x, b = c ++ [x] := ⟨b.dropLast, b.getLast (by intro h; subst h; simp at hb), (List.dropLast_concat_getLast _).symm⟩
    have hc : c.length = n := by simpa using hb
    have := ih c hc
    rw [← List.append_assoc, dval_snoc, dval_snoc, this, List.length_append, List.length_singleton, Nat.pow_succ]
    rw [Nat.add_mul, Nat.mul_assoc]
    omega
theorem rep48 (k : Nat) : (List.replicate k (48 : Int)).all dgt = true ∧ dval (List.replicate k 48) = 0 := by
  induction k with
  | zero => exact ⟨rfl, rfl⟩
  | succ k ih =>
    rw [List.replicate_succ']
    refine ⟨?_, ?_⟩
    · rw [List.all_append, ih.1]; rfl
    · rw [dval_snoc, ih.2]; rfl

end Go.FK


/- Texts of floats: digits, a point, an exponent; what such a text says. -/
namespace Go.FK
set_option exponentiation.threshold 20000

/-- Noughts at the end taken off. -/
def strip (l : List Int) : List Int := (l.reverse.dropWhile (· == 48)).reverse
/-- An exponent's letters. -/
def ed (e : Int) : List Int := if e < 0 then 45 :: dd e.natAbs else dd e.natAbs
/-- Digits, a point behind the first, an exponent. -/
def sci (D : List Int) (e : Int) : List Int := (if 1 < D.length then D.take 1 ++ 46 :: D.drop 1 else D) ++ 101 :: ed e

theorem d48_split (l : List Int) : l = List.replicate (l.length - (l.dropWhile (· == 48)).length) 48 ++ l.dropWhile (· == 48) := by
  induction l with
  | nil => rfl
  | cons x xs ih =>
    by_cases e : x = 48
    · subst e
      have hle : (xs.dropWhile (· == 48)).length ≤ xs.length := (List.dropWhile_suffix _).length_le
      simp only [List.dropWhile_cons, beq_self_eq_true, if_true, List.length_cons]
      rw [show xs.length + 1 - (xs.dropWhile (· == 48)).length = (xs.length - (xs.dropWhile (· == 48)).length) + 1 by omega, List.replicate_succ, List.cons_append, ← ih]
    · have : (x == 48) = false := by simpa using e
      simp [this]

theorem strip_split (l : List Int) : l = strip l ++ List.replicate (l.length - (strip l).length) 48 := by
  have h := d48_split l.reverse
  have h2 := congrArg List.reverse h
  rw [List.reverse_reverse, List.reverse_append, List.reverse_replicate, List.length_reverse] at h2
  unfold strip
  rw [List.length_reverse]
  exact h2
theorem strip_le (l : List Int) : (strip l).length ≤ l.length := by
  unfold strip
  rw [List.length_reverse]
  have := (List.dropWhile_suffix (l := l.reverse) (· == 48)).length_le
  rwa [List.length_reverse] at this
theorem strip_all {l : List Int} (h : l.all dgt = true) : (strip l).all dgt = true := by
  rw [strip_split l, List.all_append] at h
  simp only [Bool.and_eq_true] at h
  exact h.1
theorem strip_ne {l : List Int} (h : nthD 0 l 0 ≠ 48) (hl : l ≠ []) : strip l ≠ [] := by
  intro hs
  have h2 := strip_split l
  rw [hs, List.nil_append] at h2
  cases l with
  | nil => exact hl rfl
  | cons x xs =>
    rw [List.length_nil, Nat.sub_zero, List.length_cons, List.replicate_succ] at h2
    injection h2 with h3 _
    exact h (by rw [h3]; rfl)
theorem strip_val (l : List Int) : dval (strip l) * 10 ^ (l.length - (strip l).length) = dval l := by
  conv => rhs; rw [strip_split l]
  rw [dval_append _ _ _ rfl, List.length_replicate, (rep48 _).2, Nat.add_zero]

theorem dd_head_dgt (n : Nat) : dgt (nthD 0 (dd n) 0) = true := by
  have h1 := dd_all n
  have h2 := dd_ne n
  cases hd : dd n with
  | nil => exact absurd hd h2
  | cons x xs => rw [hd] at h1; simp only [List.all_cons, Bool.and_eq_true] at h1; exact h1.1

theorem xval_ed (e : Int) (he : e.natAbs ≤ 5000) : xval (ed e) = some e := by
  unfold ed
  by_cases h : e < 0
  · rw [if_pos h]
    have hb : xbody (45 :: dd e.natAbs) = dd e.natAbs := by unfold xbody; rw [if_pos (.inl rfl)]; rfl
    rw [xval_of hb, dd_all, dd_val, if_neg (by simp; exact ⟨dd_ne _, he⟩), if_pos (show nthD 0 (45 :: dd e.natAbs) 0 = 45 from rfl)]
    congr 1; omega
  · rw [if_neg h]
    have hd := dd_head_dgt e.natAbs
    simp only [dgt, Bool.and_eq_true, decide_eq_true_eq] at hd
    have hb : xbody (dd e.natAbs) = dd e.natAbs := by unfold xbody; rw [if_neg (by omega)]
    rw [xval_of hb, dd_all, dd_val, if_neg (by simp; exact ⟨dd_ne _, he⟩), if_neg (by omega)]
    congr 1; omega

theorem d101 : dgt 101 = false := by decide
theorem d46 : dgt 46 = false := by decide

theorem xtail_e (t : List Int) : xtail (101 :: t) = xval t := by
  unfold xtail
  rw [if_neg (by simp), if_pos (.inl rfl)]
  rfl

theorem sci_head {D : List Int} (hD : D ≠ []) (e : Int) : nthD 0 (sci D e) 0 = nthD 0 D 0 := by
  cases D with
  | nil => exact absurd rfl hD
  | cons x xs =>
    unfold sci
    split <;> rfl

theorem dspec_sci {D : List Int} (hD : D ≠ []) (ha : D.all dgt = true) {e : Int} (he : e.natAbs ≤ 5000) : dspec (sci D e) = some (dval D, e - ((D.length : Int) - 1)) := by
  have hx := xval_ed e he
  unfold sci
  by_cases h1 : 1 < D.length
  · rw [if_pos h1]
    have ht : (D.take 1).all dgt = true := List.all_eq_true.2 fun x hx => List.all_eq_true.1 ha x (List.mem_of_mem_take hx)
    have hdr : (D.drop 1).all dgt = true := List.all_eq_true.2 fun x hx => List.all_eq_true.1 ha x (List.mem_of_mem_drop hx)
    have e0 : (D.take 1 ++ 46 :: D.drop 1) ++ 101 :: ed e = D.take 1 ++ 46 :: (D.drop 1 ++ 101 :: ed e) := by simp
    rw [e0]
    obtain ⟨a1, a2⟩ := tw_append (m := D.drop 1 ++ 101 :: ed e) d46 ht
    obtain ⟨b1, b2⟩ := tw_append (m := ed e) d101 hdr
    have hfr : dfr (D.take 1 ++ 46 :: (D.drop 1 ++ 101 :: ed e)) = D.drop 1 := by
      unfold dfr
      rw [a2, if_pos (show nthD 0 (46 :: (D.drop 1 ++ 101 :: ed e)) 0 = 46 from rfl)]
      exact b1
    have hre : drest (D.take 1 ++ 46 :: (D.drop 1 ++ 101 :: ed e)) = 101 :: ed e := by
      unfold drest
      rw [a2, if_pos (show nthD 0 (46 :: (D.drop 1 ++ 101 :: ed e)) 0 = 46 from rfl)]
      exact b2
    have hl1 : (D.take 1).length = 1 := by rw [List.length_take]; omega
    have hl2 : (D.drop 1).length = D.length - 1 := List.length_drop ..
    unfold dspec
    rw [hfr, hre, a1, xtail_e, hx, if_neg]
    · simp only [List.take_append_drop]
      rw [hl2]
      congr 2; omega
    · rintro (h | ⟨_, h⟩)
      · rw [h] at hl1; simp at hl1
      · rw [h] at hl2; simp at hl2; omega
  · rw [if_neg h1]
    obtain ⟨a1, a2⟩ := tw_append (m := ed e) d101 ha
    have hfr : dfr (D ++ 101 :: ed e) = [] := by
      unfold dfr
      rw [a2, if_neg (by show ¬ (101 : Int) = 46; omega)]
    have hre : drest (D ++ 101 :: ed e) = 101 :: ed e := by
      unfold drest
      rw [a2, if_neg (by show ¬ (101 : Int) = 46; omega)]
    have hl : D.length = 1 := by
      have : D.length ≠ 0 := fun h => hD (List.length_eq_zero_iff.1 h)
      omega
    unfold dspec
    rw [hfr, hre, a1, a2, xtail_e, hx, if_neg]
    · simp only [List.append_nil, List.length_nil]
      rw [hl]
      congr 2
    · rintro (h | ⟨h, _⟩)
      · exact hD h
      · exact absurd h (by show ¬ (101 : Int) = 46; omega)

/-! ### Powers of ten -/
theorem p10_nat (n : Nat) : p10 (n : Int) = ((10 ^ n : Nat) : Rat) := by
  unfold p10
  rw [if_neg (by omega), Int.natAbs_natCast]
theorem p10_negs (n : Nat) : p10 (-((n : Int))) * ((10 ^ n : Nat) : Rat) = 1 := by
  unfold p10
  by_cases h : n = 0
  · subst h
    rw [if_neg (by omega), show (-((0 : Nat) : Int)).natAbs = 0 from rfl, Nat.pow_zero, show ((1 : Nat) : Rat) = 1 from rfl, Rat.mul_one]
  · rw [if_pos (by omega), Int.natAbs_neg, Int.natAbs_natCast]
    exact Rat.inv_mul_cancel _ (ten_ne n)
theorem p10_add_nat (n : Int) (j : Nat) : p10 (n + j) = p10 n * ((10 ^ j : Nat) : Rat) := by
  rcases Int.le_total 0 n with h | h
  · obtain ⟨m, rfl⟩ := Int.eq_ofNat_of_zero_le h
    rw [← Int.natCast_add, p10_nat, p10_nat, Nat.pow_add, Rat.natCast_mul]
  · obtain ⟨m, hm⟩ : ∃ m : Nat, n = -(m : Int) := ⟨n.natAbs, by omega⟩
    subst hm
    have hne := ten_ne m
    have h1 := p10_negs m
    have key : ∀ x y : Rat, x * ((10 ^ m : Nat) : Rat) = y * ((10 ^ m : Nat) : Rat) → x = y := fun x y hxy => by
      have := congrArg (· * ((10 ^ m : Nat) : Rat)⁻¹) hxy
      simp only [Rat.mul_assoc, Rat.mul_inv_cancel _ hne, Rat.mul_one] at this
      exact this
    apply key
    rw [Rat.mul_assoc, Rat.mul_comm ((10 ^ j : Nat) : Rat), ← Rat.mul_assoc, h1, Rat.one_mul]
    by_cases hjm : m ≤ j
    · obtain ⟨d, rfl⟩ : ∃ d, j = m + d := ⟨j - m, by omega⟩
      rw [show -(m : Int) + ((m + d : Nat) : Int) = (d : Int) by omega, p10_nat, ← Rat.natCast_mul, ← Nat.pow_add, Nat.add_comm]
    · obtain ⟨d, rfl⟩ : ∃ d, m = j + d := ⟨m - j, by omega⟩
      rw [show -((j + d : Nat) : Int) + (j : Int) = -(d : Int) by omega, Nat.pow_add, Rat.natCast_mul, Rat.mul_comm ((10 ^ j : Nat) : Rat) ((10 ^ d : Nat) : Rat), ← Rat.mul_assoc, p10_negs, Rat.one_mul]

theorem dv_strip {l : List Int} (t : Int) : dv (dval (strip l)) (t + ((l.length - (strip l).length : Nat) : Int)) = dv (dval l) t := by
  unfold dv
  rw [p10_add_nat, ← strip_val l, Rat.natCast_mul]
  grind

/-- What a text of a number's digits says. -/
theorem dspec_number {m : Nat} (hm : 0 < m) {t : Int} (h : (t + ((dd m).length : Int) - 1).natAbs ≤ 5000) :
    ∃ d e, dspec (sci (strip (dd m)) (t + ((dd m).length : Int) - 1)) = some (d, e) ∧ dv d e = dv m t ∧ dneg (sci (strip (dd m)) (t + ((dd m).length : Int) - 1)) = false ∧
      dbody (sci (strip (dd m)) (t + ((dd m).length : Int) - 1)) = sci (strip (dd m)) (t + ((dd m).length : Int) - 1) := by
  have hne := strip_ne (dd_head m hm) (dd_ne m)
  have hall := strip_all (dd_all m)
  have hle := strip_le (dd m)
  have hpos : (strip (dd m)).length ≠ 0 := fun h => hne (List.length_eq_zero_iff.1 h)
  have h45 : nthD 0 (sci (strip (dd m)) (t + ((dd m).length : Int) - 1)) 0 ≠ 45 := by
    rw [sci_head hne]
    cases hd : strip (dd m) with
    | nil => exact absurd hd hne
    | cons x xs =>
      rw [hd] at hall
      simp only [List.all_cons, Bool.and_eq_true] at hall
      have := hall.1
      simp only [dgt, Bool.and_eq_true, decide_eq_true_eq] at this
      show x ≠ 45
      omega
  refine ⟨_, _, dspec_sci hne hall h, ?_, ?_, ?_⟩
  · rw [show t + ((dd m).length : Int) - 1 - (((strip (dd m)).length : Int) - 1) = t + (((dd m).length - (strip (dd m)).length : Nat) : Int) by omega, dv_strip, dd_val]
  · unfold dneg; exact dec_f h45
  · unfold dbody; rw [if_neg h45]

end Go.FK
