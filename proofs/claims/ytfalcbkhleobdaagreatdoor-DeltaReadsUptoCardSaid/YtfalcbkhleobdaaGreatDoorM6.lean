import Derived.Test.YtfalcbkhleobdaaGreatDoorM5
import Derived.Laws.StructEq
import Derived.Lib.Bytealg

/- The plain law of the second Ratio seat: reading numbers from letters. -/
namespace Go.FK

/-! ### Letters as numbers -/
def bs (s : ByteArray) : List Int := s.data.toList.map fun b => (b.toNat : Int)
theorem bs_length (s : ByteArray) : (bs s).length = s.size := by
  simp only [bs, List.length_map, Array.length_toList]; rfl
theorem bs_btI (s : ByteArray) (i : Nat) : btI s (i : Int) = nthD 0 (bs s) i := by
  unfold btI
  rw [nthD_eq, List.getD_eq_getElem?_getD]
  by_cases h : i < s.size
  · have h' : (i : Int).toNat < s.size := by simpa using h
    rw [dif_pos h']
    have h2 : i < s.data.toList.length := by rw [Array.length_toList]; exact h
    simp [bs, ByteArray.getElem_eq_getElem_data, h]
  · have h' : ¬ (i : Int).toNat < s.size := by simpa using h
    rw [dif_neg h', List.getElem?_eq_none (by rw [bs_length]; omega)]
    rfl
theorem bs_btI0 (s : ByteArray) : btI s (0 : Int) = nthD 0 (bs s) 0 := bs_btI s 0
theorem bs_extract (s : ByteArray) (i j : Nat) : bs (s.extract i j) = ((bs s).take j).drop i := by
  simp only [bs, ByteArray.data_extract, Array.toList_extract, List.extract_eq_take_drop, List.map_drop, List.map_take]
  rw [List.drop_take]
theorem bs_inj {a b : ByteArray} (h : bs a = bs b) : a = b := by
  apply WideShapes.bytes_inj
  exact (List.map_inj_right fun (x y : UInt8) (h' : (x.toNat : Int) = y.toNat) => UInt8.toNat_inj.1 (by omega)).1 h
theorem beq_bs (a b : ByteArray) : (a.toList == b.toList) = decide (bs a = bs b) := by
  by_cases h : bs a = bs b
  · rw [dec_t h, bs_inj h]; simp
  · rw [dec_f h]
    cases hx : a.toList == b.toList with
    | false => rfl
    | true =>
      have hx := eq_of_beq hx
      rw [ByteArray.toList_eq, ByteArray.toList_eq] at hx
      exact absurd (by unfold bs; rw [hx]) h
theorem bs_range (s : ByteArray) : ∀ x ∈ bs s, 0 ≤ x ∧ x < 256 := by
  intro x hx
  simp only [bs, List.mem_map] at hx
  obtain ⟨b, _, rfl⟩ := hx
  have := b.toNat_lt
  omega

/-! ### Numbers -/
def dgt (c : Int) : Bool := decide (48 ≤ c) && decide (c ≤ 57)
def dval (l : List Int) : Nat := l.foldl (fun a c => a * 10 + (c - 48).toNat) 0
def pn (l : List Int) : Option Nat := if l = [] ∨ (1 < l.length ∧ nthD 0 l 0 = 48) then none else if l.all dgt then some (dval l) else none
def pnR (l : List Int) : List Int × Int := match pn l with
  | some n => (lim n, 0)
  | none => ([], 15)

theorem dval_snoc (l : List Int) (c : Int) : dval (l ++ [c]) = dval l * 10 + (c - 48).toNat := by simp [dval]
theorem dval_take_succ {l : List Int} {i : Nat} (h : i < l.length) : dval (l.take (i + 1)) = dval (l.take i) * 10 + (nthD 0 l i - 48).toNat := by rw [take_succ_get h, dval_snoc]
theorem dval_lt : ∀ (n : Nat) (l : List Int), l.length = n → l.all dgt = true → dval l < 10 ^ n := by
  intro n
  induction n with
  | zero => intro l hl _; rw [List.length_eq_zero_iff.1 hl]; decide
  | succ n ih =>
    intro l hl ha
    obtain ⟨m, c, rfl⟩ : ∃ m c, l = m ++ [c] := ⟨l.dropLast, l.getLast (by intro h; simp [h] at hl), (List.dropLast_concat_getLast _).symm⟩
    simp only [List.all_append, List.all_cons, List.all_nil, Bool.and_true, Bool.and_eq_true] at ha
    have := ih m (by simpa using hl) ha.1
    have h2 := ha.2
    simp only [dgt, Bool.and_eq_true, decide_eq_true_eq] at h2
    rw [dval_snoc, Nat.pow_succ]
    omega
theorem L_dval {l : List Int} (h : l.all dgt = true) : L (dval l) ≤ l.length := by
  apply L_le
  have h1 := dval_lt _ l rfl h
  exact Nat.lt_of_lt_of_le h1 (Nat.pow_le_pow_left (by omega) _)

theorem all_take {l : List Int} {i : Nat} (h : i < l.length) (h1 : (l.take i).all dgt = true) (h2 : dgt (nthD 0 l i) = true) : (l.take (i + 1)).all dgt = true := by
  rw [take_succ_get h, List.all_append, h1]; simp [h2]
theorem all_not {l : List Int} {i : Nat} (h : i < l.length) (h2 : dgt (nthD 0 l i) = false) : l.all dgt = false := by
  cases hx : l.all dgt with
  | false => rfl
  | true =>
    have hm : nthD 0 l i ∈ l := by
      rw [nthD_eq, List.getD_eq_getElem?_getD, List.getElem?_eq_getElem h]
      exact List.getElem_mem h
    have := List.all_eq_true.1 hx _ hm
    rw [h2] at this
    cases this

/-! ### The program's reading of a number -/
theorem parse_p4 (a : List Int) (s : ByteArray) (sz i : Int) (ha : Lim a) (hl : a.length ≤ 35184372088) (d : Nat) (R : List Int × Int)
    (hR : ∀ c, Lim c → V c = V a * 10 + d → c.length ≤ a.length + 1 → Ev (fun k => nat_Parse.p45 k c s 10 sz i) R) : ∀ (m j : Nat) (c : List Int) (r : Nat), m + j = a.length → c.length = a.length → Lim c → r ≤ 9 → c.drop j = a.drop j → V (c.take j) + B ^ j * r = V (a.take j) * 10 + d →
      Ev (fun k => nat_Parse.p4 k c s 10 r sz i (a.length : Int) (j : Int)) R := by
  intro m
  induction m with
  | zero =>
    intro j c r hj hc hlc hr hd hV
    have ej : j = a.length := by omega
    subst ej
    refine Ev.turn (fun k => nat_Parse.p4_succ k _ _ _ _ _ _ _ _) ?_
    unfold nat_Parse.e4
    rw [List.take_length, show c.take a.length = c by rw [← hc, List.take_length]] at hV
    refine Ev.fls (by simp) ?_
    by_cases h0 : r = 0
    · subst h0
      refine Ev.fls (by simp) (hR c hlc ?_ (by omega))
      simpa using hV
    · have ew : IntKind.u32.wrap (r : Int) = r := wrap_u32_id (by omega) (by omega)
      rw [ew]
      refine Ev.tru (by simp; omega) (Ev.tru (by simp only [List.length_cons, List.length_nil, Bool.and_eq_true, Nat.ble_eq]; omega) (hR _ ?_ ?_ (by simp; omega)))
      · intro x hx
        rcases List.mem_append.1 hx with hx | hx
        · exact hlc x hx
        · simp only [List.mem_singleton] at hx; subst hx; simp only [B]; omega
      · rw [V_append, hc, ← hV]
        simp [V]
  | succ m ih =>
    intro j c r hj hc hlc hr hd hV
    refine Ev.turn (fun k => nat_Parse.p4_succ k _ _ _ _ _ _ _ _) ?_
    unfold nat_Parse.e4
    have hjl : j < a.length := by omega
    have hx := ha.get' j
    have hcj : nthD 0 c j = nthD 0 a j := by
      have e1 : c.drop j = c[j] :: c.drop (j + 1) := List.drop_eq_getElem_cons (by omega)
      have e2 : a.drop j = a[j] :: a.drop (j + 1) := List.drop_eq_getElem_cons (by omega)
      rw [e1, e2] at hd
      rw [nthD_eq, nthD_eq, List.getD_eq_getElem?_getD, List.getD_eq_getElem?_getD, List.getElem?_eq_getElem (by omega), List.getElem?_eq_getElem (by omega)]
      simpa using (List.cons.inj hd).1
    have hb : nthD 0 a j < 4294967296 := by have := hx.2; simpa only [B] using this
    have w1 : IntKind.u64.wrap (10 : Int) = 10 := by decide
    have w2 : IntKind.u64.wrap (nthD 0 a j) = nthD 0 a j := wrap_u64_id (by omega) (by omega)
    have w3 : IntKind.u64.wrap (nthD 0 a j * 10) = nthD 0 a j * 10 := wrap_u64_id (by omega) (by omega)
    have w4 : IntKind.u64.wrap (nthD 0 a j * 10 + (r : Int)) = nthD 0 a j * 10 + r := wrap_u64_id (by omega) (by omega)
    have w5 : IntKind.u64.wrap (nthD 0 a j * 10 + (r : Int)) = nthD 0 a j * 10 + r := w4
    have w6 : IntKind.u32.wrap (nthD 0 a j * 10 + (r : Int)) = (nthD 0 a j * 10 + r) % 4294967296 := wrap_u32 _
    have w7 : Int.fdiv (nthD 0 a j * 10 + (r : Int)) (2 ^ 32) = (((nthD 0 a j * 10 + r) / 4294967296).toNat : Nat) := by
      rw [Int.fdiv_eq_ediv_of_nonneg _ (by omega)]; omega
    have w8 : IntKind.i64.wrap ((j : Int) + 1) = ((j + 1 : Nat) : Int) := by rw [wrap_i64 (by omega) (by omega)]; omega
    simp only [Int.toNat_natCast, hcj, w1, w2, w3, w4, w6, w7, w8]
    refine Ev.tru (by simp; omega) (Ev.tru (by simp; omega) (Ev.tru (by simp; omega) ?_))
    refine ih (j + 1) _ _ (by omega) (by rw [length_setN]; exact hc) (hlc.set (by simp only [B]; omega)) (by omega) ?_ ?_
    · rw [drop_setN (by omega)]
      have e1 : c.drop (j + 1) = (c.drop j).drop 1 := by rw [List.drop_drop]
      have e2 : a.drop (j + 1) = (a.drop j).drop 1 := by rw [List.drop_drop]
      rw [e1, e2, hd]
    · rw [V_take_setN (by omega), V_take_succ', Int.pow_succ]
      have h6 : (nthD 0 a j * 10 + r) % 4294967296 + B * (((nthD 0 a j * 10 + (r : Int)) / 4294967296).toNat : Nat) = nthD 0 a j * 10 + r := by
        simp only [B]; omega
      generalize (nthD 0 a j * 10 + (r : Int)) % 4294967296 = u at *
      generalize ((((nthD 0 a j * 10 + (r : Int)) / 4294967296).toNat : Nat) : Int) = v at *
      generalize nthD 0 a j = y at *
      generalize V (a.take j) = A at *
      generalize V (c.take j) = C at *
      generalize B ^ j = β at *
      have : C + β * u + β * B * v = C + β * (u + B * v) := by rw [Int.mul_add, Int.mul_assoc]; omega
      rw [this, h6, Int.mul_add]
      have e3 : β * (y * 10) = β * y * 10 := by rw [Int.mul_assoc]
      rw [e3, Int.add_mul]
      omega

theorem tab_low : ∀ n : Nat, n < 10 → nthD 0 tab_0 n = (n : Int) := by decide
theorem tab_high : ∀ n : Nat, n < 55 → ¬ n < 10 → 10 ≤ nthD 0 tab_0 n := by decide

theorem parse_p0 (s : ByteArray) (hs : s.size ≤ 1073741824) : ∀ (m i : Nat) (c : List Int), m + i = s.size → Lim c → V c = dval ((bs s).take i) → c.length ≤ i → ((bs s).take i).all dgt = true →
    Ev (fun k => nat_Parse.p0 k c s 10 (s.size : Int) (i : Int)) (if (bs s).all dgt then (lim (dval (bs s)), 0) else ([], 15)) := by
  intro m
  induction m with
  | zero =>
    intro i c hi hc hV hcl ha
    refine Ev.turn (fun k => nat_Parse.p0_succ k _ _ _ _ _) ?_
    unfold nat_Parse.e0
    have ei : i = (bs s).length := by rw [bs_length]; omega
    rw [ei, List.take_length] at hV ha
    rw [if_pos ha]
    have hn : Nt i c (dval (bs s)) := ⟨hc, hV, hcl⟩
    exact Ev.fls (by simp; omega) (Ev.bind (hn.own (by omega)) Ev.pure)
  | succ m ih =>
    intro i c hi hc hV hcl ha
    refine Ev.turn (fun k => nat_Parse.p0_succ k _ _ _ _ _) ?_
    unfold nat_Parse.e0
    have hil : i < (bs s).length := by rw [bs_length]; omega
    have hm : nthD 0 (bs s) i ∈ bs s := by
      rw [nthD_eq, List.getD_eq_getElem?_getD, List.getElem?_eq_getElem hil]
      exact List.getElem_mem hil
    have hx := bs_range s _ hm
    have p23 : Ev (fun k => nat_Parse.p23 k ()) (([] : List Int), (15 : Int)) := Ev.turn (fun k => nat_Parse.p23_succ k _) Ev.pure
    rw [bs_btI]
    have hnext := @all_take (bs s) i hil ha
    have hnot := @all_not (bs s) i hil
    have hdv := @dval_take_succ (bs s) i hil
    generalize nthD 0 (bs s) i = x at *
    have e1 : IntKind.i64.wrap x = x := wrap_i64 (by omega) (by omega)
    have e2 : IntKind.i64.wrap (x - 48) = x - 48 := wrap_i64 (by omega) (by omega)
    rw [e1, e2]
    refine Ev.tru (by simp; omega) (Ev.tru (by simp; omega) ?_)
    by_cases h1 : x - 48 < 0
    · rw [hnot (by simp [dgt]; omega)]
      exact Ev.tru (dec_t h1) p23
    refine Ev.fls (dec_f h1) ?_
    by_cases h2 : x - 48 ≥ 55
    · rw [hnot (by simp [dgt]; omega)]
      exact Ev.tru (dec_t h2) p23
    refine Ev.fls (dec_f h2) ?_
    have hlen : tab_0.length = 55 := by decide
    have ew : IntKind.u32.wrap 10 = 10 := by decide
    refine Ev.tru (by rw [hlen]; simp; omega) ?_
    rw [ew]
    by_cases h3 : x - 48 < 10
    · obtain ⟨n, hn⟩ : ∃ n : Nat, x - 48 = n := ⟨(x - 48).toNat, by omega⟩
      have hnl : n < 10 := by omega
      have e3 : nthD 0 tab_0 (Int.toNat (x - 48)) = n := by rw [hn, Int.toNat_natCast]; exact tab_low n hnl
      rw [e3]
      have e4 : IntKind.u64.wrap (n : Int) = n := wrap_u64_id (by omega) (by omega)
      rw [e4]
      refine Ev.fls (by simp; omega) (Ev.tru (by rw [hlen]; simp; omega) ?_)
      refine parse_p4 c s (s.size : Int) (i : Int) hc (by omega) n _ (fun c' k1 k2 k3 => ?_) c.length 0 c n (by omega) rfl hc (by omega) rfl (by simp [V])
      refine Ev.turn (fun k => nat_Parse.p45_succ k _ _ _ _ _) ?_
      unfold nat_Parse.e45
      have e5 : IntKind.i64.wrap ((i : Int) + 1) = ((i + 1 : Nat) : Int) := by rw [wrap_i64 (by omega) (by omega)]; omega
      simp only [e5]
      refine ih (i + 1) c' (by omega) k1 ?_ (by omega) (hnext (by simp [dgt]; omega))
      rw [hdv, k2, hV, hn, Int.toNat_natCast]
      omega
    · have := tab_high (Int.toNat (x - 48)) (by omega) (by omega)
      rw [hnot (by simp [dgt]; omega)]
      exact Ev.tru (by simp; omega) p23

theorem nat_Parse_ev (s : ByteArray) (hs : s.size ≤ 1073741824) : Ev (fun k => nat_Parse.f k s 10) (pnR (bs s)) := by
  unfold nat_Parse.f nat_Parse.e
  have hl := bs_length s
  have p9 : Ev (fun k => nat_Parse.p9 k ()) (([] : List Int), (15 : Int)) := Ev.turn (fun k => nat_Parse.p9_succ k _) Ev.pure
  have p11 : Ev (fun k => nat_Parse.p11 k s 10) (if (bs s).all dgt then (lim (dval (bs s)), 0) else ([], 15)) := by
    refine Ev.turn (fun k => nat_Parse.p11_succ k _ _) ?_
    unfold nat_Parse.e11
    exact parse_p0 s hs s.size 0 [] (by omega) Lim.nil (by simp [V, dval]) (by simp) (by simp)
  have hnil : bs (ByteArray.mk #[]) = [] := rfl
  refine Ev.fls (by simp) (Ev.fls (by simp) ?_)
  rw [beq_bs, hnil]
  unfold pnR pn
  by_cases h0 : bs s = []
  · rw [if_pos (.inl h0)]
    exact Ev.tru (dec_t h0) p9
  refine Ev.fls (dec_f h0) ?_
  have hpos : 0 < s.size := by
    rw [← hl]
    exact Nat.pos_of_ne_zero fun h => h0 (List.length_eq_zero_iff.1 h)
  by_cases h1 : 1 < s.size
  · refine Ev.tru (by simp; omega) (Ev.tru (by simp; omega) ?_)
    rw [bs_btI0]
    by_cases h2 : nthD 0 (bs s) 0 = 48
    · rw [if_pos (.inr ⟨by omega, h2⟩)]
      exact Ev.tru (dec_t h2) p9
    · rw [if_neg (fun h => h.elim h0 fun h => h2 h.2)]
      refine Ev.fls (dec_f h2) ?_
      cases hx : (bs s).all dgt <;> rw [hx] at p11 <;> simpa using p11
  · refine Ev.fls (by simp; omega) ?_
    rw [if_neg (fun h => h.elim h0 fun h => h1 (by omega))]
    cases hx : (bs s).all dgt <;> rw [hx] at p11 <;> simpa using p11

/-! ### The reference's -/
theorem rdigit_p0 (c : Int) (hc : 0 ≤ c ∧ c < 256) : ∀ (m i : Nat), m + i = 10 → (∀ j : Nat, j < i → c ≠ 48 + j) → Ev (fun k => ref01_digit.p0 k c 10 (i : Int)) (if dgt c then c - 48 else -1) := by
  intro m
  induction m with
  | zero =>
    intro i hi hn
    refine Ev.turn (fun k => ref01_digit.p0_succ k _ _ _) ?_
    unfold ref01_digit.e0
    have : dgt c = false := by
      cases hx : dgt c with
      | false => rfl
      | true =>
        simp only [dgt, Bool.and_eq_true, decide_eq_true_eq] at hx
        exact absurd (show c = 48 + ((c - 48).toNat : Nat) by omega) (hn _ (by omega))
    rw [this]
    exact Ev.fls (by simp; omega) Ev.pure
  | succ m ih =>
    intro i hi hn
    refine Ev.turn (fun k => ref01_digit.p0_succ k _ _ _) ?_
    unfold ref01_digit.e0
    have ht : ∀ i : Nat, i < 10 → btI str_9f9f5111f7 (i : Int) = 48 + i := by decide +kernel
    rw [ht i (by omega)]
    have e5 : IntKind.i64.wrap ((i : Int) + 1) = ((i + 1 : Nat) : Int) := by rw [wrap_i64 (by omega) (by omega)]; omega
    simp only [e5]
    refine Ev.tru (by simp; omega) (Ev.tru (by rw [tab_len]; simp; omega) ?_)
    by_cases h : 48 + (i : Int) = c
    · have : dgt c = true := by simp [dgt]; omega
      rw [this]
      exact Ev.tru (dec_t h) (Ev.eq (by simp; omega))
    · refine Ev.fls (dec_f h) (ih (i + 1) (by omega) fun j hj e => ?_)
      rcases Nat.lt_succ_iff_lt_or_eq.1 hj with h' | h'
      · exact hn j h' e
      · subst h'; exact h e.symm

theorem rparse_p0 (s : ByteArray) (hs : s.size ≤ 1073741824) : ∀ (m i : Nat) (c : List Int), m + i = s.size → c = lim (dval ((bs s).take i)) → ((bs s).take i).all dgt = true →
    Ev (fun k => ref01_Parse.p0 k s 10 c (i : Int)) (if (bs s).all dgt then (lim (dval (bs s)), 0) else ([], 15)) := by
  intro m
  induction m with
  | zero =>
    intro i c hi hc ha
    refine Ev.turn (fun k => ref01_Parse.p0_succ k _ _ _ _) ?_
    unfold ref01_Parse.e0
    have ei : i = (bs s).length := by rw [bs_length]; omega
    rw [ei, List.take_length] at hc ha
    rw [if_pos ha, hc]
    exact Ev.fls (by simp; omega) Ev.pure
  | succ m ih =>
    intro i c hi hc ha
    refine Ev.turn (fun k => ref01_Parse.p0_succ k _ _ _ _) ?_
    unfold ref01_Parse.e0
    have hil : i < (bs s).length := by rw [bs_length]; omega
    have hm : nthD 0 (bs s) i ∈ bs s := by
      rw [nthD_eq, List.getD_eq_getElem?_getD, List.getElem?_eq_getElem hil]
      exact List.getElem_mem hil
    have hx := bs_range s _ hm
    rw [bs_btI]
    have hnext := @all_take (bs s) i hil ha
    have hnot := @all_not (bs s) i hil
    have hdv := @dval_take_succ (bs s) i hil
    have hL := L_dval ha
    rw [List.length_take] at hL
    generalize nthD 0 (bs s) i = x at *
    have hd := rdigit_p0 x hx 10 0 (by omega) (fun j hj => by omega)
    refine Ev.tru (by simp; omega) (Ev.tru (by simp; omega) (Ev.bind hd ?_))
    cases hdg : dgt x
    · rw [hnot hdg]
      exact Ev.tru (by simp) Ev.pure
    · have hdg' := hdg
      simp only [dgt, Bool.and_eq_true, decide_eq_true_eq] at hdg'
      simp only [if_true]
      have ew : IntKind.u32.wrap 10 = 10 := by decide
      have ex : IntKind.u32.wrap (x - 48) = x - 48 := wrap_u32_id (by omega) (by omega)
      have e5 : IntKind.i64.wrap ((i : Int) + 1) = ((i + 1 : Nat) : Int) := by rw [wrap_i64 (by omega) (by omega)]; omega
      rw [ew, ex, e5]
      have n0 : Nt (i + 1) c (dval ((bs s).take i)) := by rw [hc]; exact Nt.of (by omega)
      have n1 : Nt (i + 1) [10] 10 := (Nt.one (x := 10) (by simp [B])).mono (by omega)
      have n2 : Nt (i + 2) (lim (dval ((bs s).take i) * 10)) (dval ((bs s).take i) * 10) := Nt.of (by
        have := L_mul (dval ((bs s).take i)) 10
        have := L_small (n := 10) (by omega)
        omega)
      have n3 : Nt (i + 2) [x - 48] (x - 48).toNat := (Nt.one (x := x - 48) (by simp only [B]; omega)).mono (by omega)
      refine Ev.fls (by simp; omega) (Ev.bind (n0.rmul n1 (by omega)) (Ev.bind (n2.radd n3 (by omega)) ?_))
      rw [← hdv]
      exact ih (i + 1) _ (by omega) rfl (hnext hdg)

theorem ref01_Parse_ev (s : ByteArray) (hs : s.size ≤ 1073741824) : Ev (fun k => ref01_Parse.f k s 10) (pnR (bs s)) := by
  unfold ref01_Parse.f ref01_Parse.e
  have hl := bs_length s
  have p9 : Ev (fun k => ref01_Parse.p9 k ()) (([] : List Int), (15 : Int)) := Ev.turn (fun k => ref01_Parse.p9_succ k _) Ev.pure
  have p11 : Ev (fun k => ref01_Parse.p11 k s 10) (if (bs s).all dgt then (lim (dval (bs s)), 0) else ([], 15)) := by
    refine Ev.turn (fun k => ref01_Parse.p11_succ k _ _) ?_
    unfold ref01_Parse.e11
    exact rparse_p0 s hs s.size 0 [] (by omega) (by simp [dval, lim_zero]) (by simp)
  refine Ev.fls (by simp) (Ev.fls (by simp) ?_)
  unfold pnR pn
  by_cases h0 : bs s = []
  · rw [if_pos (.inl h0)]
    have : s.size = 0 := by rw [← hl, h0]; rfl
    exact Ev.tru (dec_t (by omega)) p9
  have hpos : 0 < s.size := by
    rw [← hl]
    exact Nat.pos_of_ne_zero fun h => h0 (List.length_eq_zero_iff.1 h)
  refine Ev.fls (dec_f (by omega)) ?_
  by_cases h1 : 1 < s.size
  · refine Ev.tru (by simp; omega) (Ev.tru (by simp; omega) ?_)
    rw [bs_btI0]
    by_cases h2 : nthD 0 (bs s) 0 = 48
    · rw [if_pos (.inr ⟨by omega, h2⟩)]
      exact Ev.tru (dec_t h2) p9
    · rw [if_neg (fun h => h.elim h0 fun h => h2 h.2)]
      refine Ev.fls (dec_f h2) ?_
      cases hx : (bs s).all dgt <;> rw [hx] at p11 <;> simpa using p11
  · refine Ev.fls (by simp; omega) ?_
    rw [if_neg (fun h => h.elim h0 fun h => h1 (by omega))]
    cases hx : (bs s).all dgt <;> rw [hx] at p11 <;> simpa using p11

end Go.FK


/- The plain law of the second Ratio seat: cutting texts; powers of ten. -/
namespace Go.FK

theorem bs_one (c : UInt8) : bs (ByteArray.mk #[c]) = [(c.toNat : Int)] := rfl

theorem index_spec (c : UInt8) : ∀ l : List UInt8, (Go.Lib.indexByte l c = -1 ∧ (c.toNat : Int) ∉ l.map (fun b => (b.toNat : Int))) ∨
    ∃ i : Nat, Go.Lib.indexByte l c = i ∧ i < l.length ∧ (l.map (fun b => (b.toNat : Int))).takeWhile (· != (c.toNat : Int)) = (l.map (fun b => (b.toNat : Int))).take i ∧ (l.map (fun b => (b.toNat : Int))).dropWhile (· != (c.toNat : Int)) = (c.toNat : Int) :: (l.map (fun b => (b.toNat : Int))).drop (i + 1)
  | [] => .inl ⟨rfl, by simp⟩
  | b :: l => by
    by_cases h : b = c
    · subst h
      exact .inr ⟨0, by simp [Go.Lib.indexByte], by simp, by simp, by simp⟩
    · have hn : ¬ ((b.toNat : Int) = c.toNat) := fun e => h (UInt8.toNat_inj.1 (by omega))
      have hb : (b == c) = false := by simpa using h
      have hb2 : ((b.toNat : Int) != (c.toNat : Int)) = true := by simpa using hn
      rcases index_spec c l with ⟨h1, h2⟩ | ⟨i, h1, h2, h3, h4⟩
      · refine .inl ⟨by simp [Go.Lib.indexByte, hb, h1], ?_⟩
        simp only [List.map_cons, List.mem_cons, not_or]
        exact ⟨fun e => hn e.symm, h2⟩
      · refine .inr ⟨i + 1, ?_, by simp; omega, ?_, ?_⟩
        · have h5 : (Go.Lib.indexByte l c == -1) = false := by rw [h1]; simp
          simp [Go.Lib.indexByte, hb, h1]
        · simp only [List.map_cons, List.takeWhile_cons, hb2, if_true, h3, List.take_succ_cons]
        · simp only [List.map_cons, List.dropWhile_cons, hb2, if_true, h4, List.drop_succ_cons]

def hasC (c : Int) (l : List Int) : Bool := decide (c ∈ l)
def befC (c : Int) (l : List Int) : List Int := l.takeWhile (· != c)
def aftC (c : Int) (l : List Int) : List Int := (l.dropWhile (· != c)).drop 1

/-- What Cut answers at a letter. -/
theorem cut_ev (s : ByteArray) (c : UInt8) (hs : s.size ≤ 1073741824) : ∃ x y, Ev (fun k => strings_Cut.f k s (ByteArray.mk #[c])) (x, y, hasC c.toNat (bs s)) ∧ (hasC c.toNat (bs s) = true → bs x = befC c.toNat (bs s) ∧ bs y = aftC c.toNat (bs s)) ∧ (hasC c.toNat (bs s) = false → x = s ∧ y = ByteArray.mk #[]) := by
  have hl := bs_length s
  have hsz : (ByteArray.mk #[c]).size = 1 := rfl
  have hb0 : btI (ByteArray.mk #[c]) (0 : Int) = c.toNat := by rw [bs_btI0, bs_one]; rfl
  have hc : c.toNat.toUInt8 = c := by simp
  have hcut : ∀ (i : Nat), i < s.size → Ev (fun k => stringslite_Index.f k s (ByteArray.mk #[c])) (i : Int) → Ev (fun k => strings_Cut.f k s (ByteArray.mk #[c])) (s.extract 0 i, s.extract (i + 1) s.size, true) := by
    intro i hi h
    unfold strings_Cut.f strings_Cut.e
    refine Ev.bind (?_ : Ev (fun k => stringslite_Cut.f k s (ByteArray.mk #[c])) (s.extract 0 i, s.extract (i + 1) s.size, true)) Ev.pure
    unfold stringslite_Cut.f stringslite_Cut.e
    refine Ev.bind h ?_
    have e : IntKind.i64.wrap ((i : Int) + ((ByteArray.mk #[c]).size : Int)) = ((i + 1 : Nat) : Int) := by rw [hsz, wrap_i64 (by omega) (by omega)]; omega
    rw [e]
    refine Ev.tru (by simp) (Ev.tru (by simp; omega) (Ev.tru (by simp; omega) (Ev.eq ?_)))
    simp
  have hno : Ev (fun k => stringslite_Index.f k s (ByteArray.mk #[c])) (-1 : Int) → Ev (fun k => strings_Cut.f k s (ByteArray.mk #[c])) (s, ByteArray.mk #[], false) := by
    intro h
    unfold strings_Cut.f strings_Cut.e
    refine Ev.bind (?_ : Ev (fun k => stringslite_Cut.f k s (ByteArray.mk #[c])) (s, ByteArray.mk #[], false)) Ev.pure
    unfold stringslite_Cut.f stringslite_Cut.e
    exact Ev.bind h (Ev.fls (by simp) Ev.pure)
  have hidx : Ev (fun k => stringslite_Index.f k s (ByteArray.mk #[c])) (Go.Lib.indexByte s.data.toList c) := by
    unfold stringslite_Index.f stringslite_Index.e
    refine Ev.fls (by rw [hsz]; simp) ?_
    rw [beq_bs, bs_one]
    by_cases h : [(c.toNat : Int)] = bs s
    · refine Ev.tru (dec_t h) ?_
      have hs1 : s = ByteArray.mk #[c] := bs_inj (by rw [← h, bs_one])
      subst hs1
      have e : Go.Lib.indexByte (ByteArray.mk #[c]).data.toList c = 0 := by simp [Go.Lib.indexByte]
      rw [e]
      exact Ev.turn (fun k => stringslite_Index.p7_succ k _) Ev.pure
    · refine Ev.fls (dec_f h) (Ev.tru (by rw [hsz]; simp) (Ev.tru (by rw [hsz]; simp) ?_))
      refine Ev.bind (?_ : Ev (fun k => stringslite_IndexByte.f k s (btI (ByteArray.mk #[c]) 0)) (Go.Lib.indexByte s.data.toList c)) Ev.pure
      unfold stringslite_IndexByte.f stringslite_IndexByte.e
      refine Ev.bind (?_ : Ev (fun k => bytealg_IndexByteString.f k s (btI (ByteArray.mk #[c]) 0)) (Go.Lib.indexByte s.data.toList c)) Ev.pure
      unfold bytealg_IndexByteString.f
      refine Ev.eq ?_
      rw [hb0, Int.toNat_natCast, hc]
  rcases index_spec c s.data.toList with ⟨h1, h2⟩ | ⟨i, h1, h2, h3, h4⟩
  · have hf : hasC c.toNat (bs s) = false := dec_f h2
    rw [h1] at hidx
    rw [hf]
    exact ⟨_, _, hno hidx, (fun h => by cases h), fun _ => ⟨rfl, rfl⟩⟩
  · have hi : i < s.size := by have : s.data.toList.length = s.size := by rw [Array.length_toList]; rfl
                               omega
    have ht : hasC c.toNat (bs s) = true := by
      apply dec_t
      have : (c.toNat : Int) ∈ (bs s).dropWhile (· != (c.toNat : Int)) := by
        unfold bs; rw [h4]; simp
      exact (List.dropWhile_suffix _).subset this
    rw [h1] at hidx
    rw [ht]
    refine ⟨_, _, hcut i hi hidx, (fun _ => ⟨?_, ?_⟩), (fun h => by cases h)⟩
    · rw [bs_extract, List.drop_zero]
      exact h3.symm
    · rw [bs_extract, ← hl, List.take_length]
      unfold aftC
      have h4' : (bs s).dropWhile (· != (c.toNat : Int)) = (c.toNat : Int) :: (bs s).drop (i + 1) := h4
      rw [h4']
      rfl

/-- The sign ahead. -/
theorem prefix_ev (s : ByteArray) (c : UInt8) : Ev (fun k => strings_CutPrefix.f k s (ByteArray.mk #[c])) (if nthD 0 (bs s) 0 = c.toNat ∧ 0 < s.size then (s.extract 1 s.size, true) else (s, false)) := by
  have hl := bs_length s
  have hsz : (ByteArray.mk #[c]).size = 1 := rfl
  have hp : Ev (fun k => stringslite_HasPrefix.f k s (ByteArray.mk #[c])) (decide (nthD 0 (bs s) 0 = c.toNat ∧ 0 < s.size)) := by
    unfold stringslite_HasPrefix.f stringslite_HasPrefix.e
    by_cases h : 0 < s.size
    · refine Ev.tru (by rw [hsz]; simp; omega) (Ev.tru (by rw [hsz]; simp; omega) (Ev.eq ?_))
      rw [beq_bs, bs_extract, bs_one, hsz]
      apply decide_eq_decide.2
      have : (bs s).take 1 = [nthD 0 (bs s) 0] := by
        have := take_succ_get (a := bs s) (n := 0) (by omega)
        simpa using this
      simp [this, h]
    · refine Ev.fls (by rw [hsz]; simp; omega) (Ev.eq ?_)
      simp [h]
  unfold strings_CutPrefix.f strings_CutPrefix.e
  refine Ev.bind (?_ : Ev (fun k => stringslite_CutPrefix.f k s (ByteArray.mk #[c])) (if nthD 0 (bs s) 0 = c.toNat ∧ 0 < s.size then (s.extract 1 s.size, true) else (s, false))) Ev.pure
  unfold stringslite_CutPrefix.f stringslite_CutPrefix.e
  refine Ev.bind hp ?_
  by_cases h : nthD 0 (bs s) 0 = c.toNat ∧ 0 < s.size
  · rw [if_pos h, dec_t h, hsz]
    exact Ev.fls rfl (Ev.tru (by simp; omega) (Ev.eq (by simp)))
  · rw [if_neg h, dec_f h]
    exact Ev.tru rfl Ev.pure

/-- Zeros ahead taken off. -/
theorem trim_byte (c : UInt8) : ∀ (n : Nat) (s : ByteArray), s.size = n → ∃ t, Ev (fun k => strings_trimLeftByte.p0 k s c.toNat) t ∧ bs t = (bs s).dropWhile (· == (c.toNat : Int)) := by
  intro n
  induction n with
  | zero =>
    intro s hs
    refine ⟨s, Ev.turn (fun k => strings_trimLeftByte.p0_succ k _ _) ?_, ?_⟩
    · unfold strings_trimLeftByte.e0
      exact Ev.fls (dec_f (by omega)) (Ev.turn (fun k => strings_trimLeftByte.p7_succ k _) Ev.pure)
    · have : bs s = [] := List.length_eq_zero_iff.1 (by rw [bs_length]; exact hs)
      rw [this]; rfl
  | succ n ih =>
    intro s hs
    have hl := bs_length s
    have hcons : bs s = nthD 0 (bs s) 0 :: (bs s).drop 1 := by
      have h1 := List.drop_eq_getElem_cons (l := bs s) (i := 0) (by omega)
      rw [List.drop_zero] at h1
      rw [nthD_eq, List.getD_eq_getElem?_getD, List.getElem?_eq_getElem (by omega)]
      exact h1
    by_cases h : nthD 0 (bs s) 0 = c.toNat
    · have hsz : (s.extract 1 s.size).size = n := by rw [ByteArray.size_extract]; omega
      obtain ⟨t, h1, h2⟩ := ih (s.extract 1 s.size) hsz
      refine ⟨t, Ev.turn (fun k => strings_trimLeftByte.p0_succ k _ _) ?_, ?_⟩
      · unfold strings_trimLeftByte.e0
        rw [bs_btI0]
        exact Ev.tru (dec_t (by omega)) (Ev.tru (dec_t (by omega)) (Ev.tru (dec_t h) (Ev.tru (by simp; omega) h1)))
      · rw [h2, bs_extract, ← hl, List.take_length]
        conv => rhs; rw [hcons]
        rw [List.dropWhile_cons, if_pos (by simpa using h)]
    · refine ⟨s, Ev.turn (fun k => strings_trimLeftByte.p0_succ k _ _) ?_, ?_⟩
      · unfold strings_trimLeftByte.e0
        rw [bs_btI0]
        exact Ev.tru (dec_t (by omega)) (Ev.tru (dec_t (by omega)) (Ev.fls (dec_f h) (Ev.turn (fun k => strings_trimLeftByte.p7_succ k _) Ev.pure)))
      · conv => rhs; rw [hcons]
        rw [List.dropWhile_cons, if_neg (by simpa using h)]
        exact hcons

theorem trim_zero (s : ByteArray) : ∃ t, Ev (fun k => strings_TrimLeft.f k s (ByteArray.mk #[48])) t ∧ bs t = (bs s).dropWhile (· == 48) := by
  have hnil : bs (ByteArray.mk #[]) = [] := rfl
  have h48 : bs (ByteArray.mk #[48]) = [48] := rfl
  have hb0 : btI (ByteArray.mk #[48]) (0 : Int) = 48 := by decide
  have hsz : (ByteArray.mk #[48]).size = 1 := rfl
  by_cases h : bs s = []
  · refine ⟨s, ?_, by rw [h]; rfl⟩
    unfold strings_TrimLeft.f strings_TrimLeft.e
    rw [beq_bs, hnil]
    exact Ev.tru (dec_t h) (Ev.turn (fun k => strings_TrimLeft.p5_succ k _) Ev.pure)
  · obtain ⟨t, h1, h2⟩ := trim_byte 48 s.size s rfl
    refine ⟨t, ?_, h2⟩
    unfold strings_TrimLeft.f strings_TrimLeft.e
    rw [beq_bs, beq_bs, hnil, h48, hb0, hsz]
    refine Ev.fls (dec_f h) (Ev.fls (by simp) (Ev.tru (by simp) (Ev.tru (by simp) (Ev.tru (by simp) (Ev.tru (by simp) ?_)))))
    refine Ev.bind (?_ : Ev (fun k => strings_trimLeftByte.f k s 48) t) Ev.pure
    unfold strings_trimLeftByte.f strings_trimLeftByte.e
    exact h1

/-! ### Powers of ten -/
theorem pow_p0 (M : Nat) (hM : M ≤ 17592186044415) (R : Nat) (hR : L R ≤ M) : ∀ (N n : Nat) (acc base : Nat), n ≤ N → n ≤ 4096 → 0 < acc → 0 < base → acc * base ^ n = R → L base ≤ M → L acc ≤ M →
    Ev (fun k => nat_Pow.p0 k (n : Int) (lim acc) (lim base)) (lim R, (0 : Int)) := by
  intro N
  induction N with
  | zero =>
    intro n acc base hn _ _ _ hr _ _
    obtain rfl : n = 0 := by omega
    refine Ev.turn (fun k => nat_Pow.p0_succ k _ _ _) ?_
    unfold nat_Pow.e0
    rw [Nat.pow_zero, Nat.mul_one] at hr
    subst hr
    exact Ev.fls (by simp) Ev.pure
  | succ N ih =>
    intro n acc base hn h4 ha hb hr hLb hLa
    refine Ev.turn (fun k => nat_Pow.p0_succ k _ _ _) ?_
    unfold nat_Pow.e0
    by_cases h0 : n = 0
    · subst h0
      rw [Nat.pow_zero, Nat.mul_one] at hr
      subst hr
      exact Ev.fls (by simp) Ev.pure
    have hna : Nt M (lim acc) acc := Nt.of hLa
    have hnb : Nt M (lim base) base := Nt.of hLb
    have htm : Int.tmod (n : Int) 2 = ((n % 2 : Nat) : Int) := by rw [Int.tmod_eq_emod_of_nonneg (by omega)]; omega
    have htd : Int.tdiv (n : Int) 2 = ((n / 2 : Nat) : Int) := by rw [Int.tdiv_eq_ediv_of_nonneg (by omega)]; omega
    have hmod : n = 2 * (n / 2) + n % 2 := by omega
    -- the step behind the factor
    have hnext : ∀ acc' : Nat, 0 < acc' → acc' * (base * base) ^ (n / 2) = R → L acc' ≤ M → Ev (fun k => nat_Pow.p19 k (n : Int) (lim acc') (lim base)) (lim R, (0 : Int)) := by
      intro acc' ha' hr' hL'
      refine Ev.turn (fun k => nat_Pow.p19_succ k _ _ _) ?_
      unfold nat_Pow.e19
      have h13 : ∀ b' : Nat, 0 < b' → acc' * b' ^ (n / 2) = R → L b' ≤ M → Ev (fun k => nat_Pow.p13 k (n : Int) (lim acc') (lim b')) (lim R, (0 : Int)) := by
        intro b' hb' hr'' hLb'
        refine Ev.turn (fun k => nat_Pow.p13_succ k _ _ _) ?_
        unfold nat_Pow.e13
        rw [htd, wrap_i64 (by omega) (by omega)]
        exact ih (n / 2) acc' b' (by omega) (by omega) ha' hb' hr'' hLb' hL'
      by_cases h1 : 1 < n
      · have hLbb : L (base * base) ≤ M := by
          refine Nat.le_trans (L_mono ?_) hR
          rw [← hr']
          have : (base * base) ^ 1 ≤ (base * base) ^ (n / 2) := Nat.pow_le_pow_right (Nat.mul_pos hb hb) (by omega)
          rw [Nat.pow_one] at this
          exact Nat.le_trans this (Nat.le_mul_of_pos_left _ ha')
        exact Ev.tru (by simp; omega) (Ev.bind (hnb.mul hnb (by omega)) (h13 _ (Nat.mul_pos hb hb) hr' hLbb))
      · have : n / 2 = 0 := by omega
        rw [this, Nat.pow_zero] at hr'
        exact Ev.fls (by simp; omega) (h13 base hb (by rw [this, Nat.pow_zero]; exact hr') hLb)
    rw [htm]
    have hsq : (base * base) ^ (n / 2) = base ^ (2 * (n / 2)) := by rw [Nat.pow_mul, Nat.pow_two]
    refine Ev.tru (by simp; omega) ?_
    by_cases h2 : n % 2 = 1
    · have hr' : acc * base * (base * base) ^ (n / 2) = R := by
        rw [← hr, hsq, Nat.mul_assoc, ← Nat.pow_succ', show (2 * (n / 2)).succ = n by omega]
      have hLab : L (acc * base) ≤ M := by
        refine Nat.le_trans (L_mono ?_) hR
        rw [← hr']
        exact Nat.le_mul_of_pos_right _ (Nat.pow_pos (Nat.mul_pos hb hb))
      exact Ev.tru (by rw [h2]; rfl) (Ev.bind (hna.mul hnb (by omega)) (hnext _ (Nat.mul_pos ha hb) hr' hLab))
    · have : n % 2 = 0 := by omega
      refine Ev.fls (by rw [this]; rfl) (hnext acc ha ?_ hLa)
      rw [hsq, show 2 * (n / 2) = n by omega]
      exact hr

theorem L_ten (n : Nat) : L (10 ^ n) ≤ n + 1 := by
  apply L_le
  rw [Nat.pow_succ]
  have : 10 ^ n ≤ 4294967296 ^ n := Nat.pow_le_pow_left (by omega) n
  have h2 : 0 < 4294967296 ^ n := Nat.pow_pos (by omega)
  omega

theorem pow_ev {n : Nat} (hn : n ≤ 4096) : Ev (fun k => nat_Pow.f k [10] (n : Int)) (lim (10 ^ n), (0 : Int)) := by
  unfold nat_Pow.f nat_Pow.e
  have h10 : Nt 1 [10] 10 := Nt.one (by simp [B])
  have e1 : ([1] : List Int) = lim 1 := lim_one.symm
  refine Ev.fls (by simp) (Ev.fls (by simp; omega) (Ev.bind (h10.own (by omega)) ?_))
  rw [e1]
  have h1 := L_ten n
  exact pow_p0 5000 (by omega) (10 ^ n) (by omega) n n 1 10 (Nat.le_refl _) hn (by omega) (by omega) (by rw [Nat.one_mul]) (by have := L_small (n := 10) (by omega); omega) (by rw [L_one]; omega)

theorem ten_p0 : ∀ (N n m : Nat), n ≤ N → n + m ≤ 1073741824 → Ev (fun k => ratio_ten.p0 k (n : Int) (lim (10 ^ m))) (lim (10 ^ (n + m))) := by
  intro N
  induction N with
  | zero =>
    intro n m hn _
    obtain rfl : n = 0 := by omega
    refine Ev.turn (fun k => ratio_ten.p0_succ k _ _) ?_
    unfold ratio_ten.e0
    rw [Nat.zero_add]
    exact Ev.fls (by simp) Ev.pure
  | succ N ih =>
    intro n m hn hnm
    by_cases h0 : n = 0
    · subst h0; exact ih 0 m (by omega) hnm
    refine Ev.turn (fun k => ratio_ten.p0_succ k _ _) ?_
    unfold ratio_ten.e0
    have hs : (bif decide ((4096 : Int) < (n : Int)) then (4096 : Int) else (n : Int)) = ((min 4096 n : Nat) : Int) := by
      by_cases h : 4096 < n
      · rw [dec_t (by omega)]; simp; omega
      · rw [dec_f (by omega)]; simp; omega
    rw [hs]
    have l1 := L_ten m
    have l2 := L_ten (min 4096 n)
    have n1 : Nt (n + m + 2) (lim (10 ^ m)) (10 ^ m) := Nt.of (by omega)
    have n2 : Nt (n + m + 2) (lim (10 ^ (min 4096 n))) (10 ^ (min 4096 n)) := Nt.of (by omega)
    refine Ev.tru (by simp; omega) (Ev.bind (pow_ev (by omega)) (Ev.bind (n1.mul n2 (by omega)) ?_))
    have e : IntKind.i64.wrap ((n : Int) - ((min 4096 n : Nat) : Int)) = ((n - min 4096 n : Nat) : Int) := by rw [wrap_i64 (by omega) (by omega)]; omega
    rw [e, ← Nat.pow_add]
    have := ih (n - min 4096 n) (m + min 4096 n) (by omega) (by omega)
    rwa [show n - min 4096 n + (m + min 4096 n) = n + m by omega] at this

theorem ten_ev {n : Nat} (hn : n ≤ 1073741824) : Ev (fun k => ratio_ten.f k (n : Int)) (lim (10 ^ n)) := by
  unfold ratio_ten.f ratio_ten.e
  have e1 : ([1] : List Int) = lim (10 ^ 0) := lim_one.symm
  rw [e1]
  exact ten_p0 n n 0 (Nat.le_refl _) (by omega)

end Go.FK


/- The plain law of the second Ratio seat: Reads. -/
namespace Go.FK

def sg (neg : Bool) (n : Nat) : Int := if neg then -(n : Int) else n
theorem sg_zt {M n : Nat} (neg : Bool) (h : L n ≤ M) : Zt M (neg, lim n) (sg neg n) := ⟨Lim_lim n, by cases neg <;> simp [Zv, sg, V_lim], h⟩
theorem LZ_sg (neg : Bool) (n : Nat) : LZ (sg neg n) = L n := by cases neg <;> simp [LZ, sg]

def pR : Option Rat → RR × Int
  | some q => (rat q, 0)
  | none => (noRat, 31)

/-- What the program reads. -/
def tz (f : List Int) : List Int := if f.dropWhile (· == 48) = [] then [48] else f.dropWhile (· == 48)
def frac (l : List Int) : List Int := if hasC 46 l = true then aftC 46 l else []
def pspec (neg : Bool) (l : List Int) : Option Rat :=
  if hasC 47 l = true then
    (match pn (befC 47 l), pn (aftC 47 l) with
    | some n, some d => if d = 0 then none else some (mkRat (sg neg n) d)
    | _, _ => none)
  else match pn (befC 46 l) with
    | none => none
    | some n => if hasC 46 l = true ∧ frac l = [] then none else match pn (tz (frac l)) with
      | none => none
      | some m => some (mkRat (sg neg (n * 10 ^ (frac l).length + m)) (10 ^ (frac l).length))
/-- What the reference reads. -/
def rspec (neg : Bool) (l : List Int) : Option Rat :=
  match pn (l.takeWhile dgt) with
  | none => none
  | some n => match l.dropWhile dgt with
    | [] => some (mkRat (sg neg n) 1)
    | c :: f => if c = 47 then (match pn f with
        | some d => if d = 0 then none else some (mkRat (sg neg n) d)
        | none => none)
      else if ¬ c = 46 then none else if f = [] then none else if f.all dgt = true then some (mkRat (sg neg (n * 10 ^ f.length + dval f)) (10 ^ f.length)) else none

theorem pn_some {l : List Int} {n : Nat} (h : pn l = some n) : l.all dgt = true ∧ n = dval l ∧ l ≠ [] ∧ L n ≤ l.length := by
  unfold pn at h
  split at h
  · cases h
  · rename_i h1
    split at h
    · rename_i h2
      simp only [Option.some.injEq] at h
      exact ⟨h2, h.symm, fun e => h1 (.inl e), by rw [← h]; exact L_dval h2⟩
    · cases h

theorem takeWhile_all {p : Int → Bool} : ∀ {l : List Int}, l.all p = true → l.takeWhile p = l ∧ l.dropWhile p = []
  | [], _ => ⟨rfl, rfl⟩
  | x :: xs, h => by
    simp only [List.all_cons, Bool.and_eq_true] at h
    obtain ⟨h1, h2⟩ := takeWhile_all h.2
    simp [h.1, h1, h2]
theorem takeWhile_append {p : Int → Bool} {c : Int} {m : List Int} (hc : p c = false) : ∀ {l : List Int}, l.all p = true → (l ++ c :: m).takeWhile p = l ∧ (l ++ c :: m).dropWhile p = c :: m
  | [], _ => by simp [hc]
  | x :: xs, h => by
    simp only [List.all_cons, Bool.and_eq_true] at h
    obtain ⟨h1, h2⟩ := takeWhile_append (m := m) hc h.2
    simp [h.1, h1, h2]

theorem split_has {c : Int} : ∀ {l : List Int}, c ∈ l → l = befC c l ++ c :: aftC c l
  | x :: xs, h => by
    by_cases e : x = c
    · subst e; simp [befC, aftC, List.takeWhile_cons, List.dropWhile_cons]
    · have h' : c ∈ xs := by
        rcases List.mem_cons.1 h with h | h
        · exact absurd h.symm e
        · exact h
      have := split_has h'
      simp only [befC, aftC, List.takeWhile_cons, List.dropWhile_cons] at this ⊢
      have hb : (x != c) = true := by simpa using e
      simp only [hb, if_true, List.cons_append]
      exact congrArg (x :: ·) this
theorem split_not {c : Int} {l : List Int} (h : c ∉ l) : befC c l = l := by
  unfold befC
  refine (takeWhile_all ?_).1
  rw [List.all_eq_true]
  intro x hx
  have : x ≠ c := fun e => h (e ▸ hx)
  simpa using this
theorem bef_not (c : Int) : ∀ (l : List Int), c ∉ befC c l
  | [] => by simp [befC]
  | x :: xs => by
    unfold befC
    rw [List.takeWhile_cons]
    by_cases e : x = c
    · subst e; simp
    · have hb : (x != c) = true := by simpa using e
      rw [if_pos hb]
      simp only [List.mem_cons, not_or]
      exact ⟨fun h => e h.symm, bef_not c xs⟩

theorem mem_dgt {l : List Int} (h : l.all dgt = true) {c : Int} (hc : dgt c = false) : c ∉ l := fun hm => by
  have := List.all_eq_true.1 h c hm
  rw [hc] at this
  cases this

/-- The first that is no digit. -/
theorem first_bad : ∀ (l : List Int), l.all dgt = false → ∃ c f, l.dropWhile dgt = c :: f ∧ dgt c = false ∧ c ∈ l
  | [], h => by simp at h
  | x :: xs, h => by
    by_cases e : dgt x = true
    · simp only [List.all_cons, e, Bool.true_and] at h
      obtain ⟨c, f, h1, h2, h3⟩ := first_bad xs h
      exact ⟨c, f, by simp [e, h1], h2, by simp [h3]⟩
    · have e : dgt x = false := by simpa using e
      exact ⟨x, xs, by simp [e], e, by simp⟩

/-- A digit-prefix of a text that starts with a bad piece. -/
theorem bad_append : ∀ (a m : List Int), a.all dgt = false → ∃ c f, (a ++ m).takeWhile dgt = a.takeWhile dgt ∧ (a ++ m).dropWhile dgt = c :: (f ++ m) ∧ dgt c = false ∧ c ∈ a
  | [], m, h => by simp at h
  | x :: xs, m, h => by
    by_cases e : dgt x = true
    · simp only [List.all_cons, e, Bool.true_and] at h
      obtain ⟨c, f, h0, h1, h2, h3⟩ := bad_append xs m h
      exact ⟨c, f, by simp [e, h0], by simp [e, h1], h2, by simp [h3]⟩
    · have e : dgt x = false := by simpa using e
      exact ⟨x, xs, by simp [e], by simp [e], e, by simp⟩

theorem pn_none_cases {l : List Int} (h : pn l = none) : l.all dgt = false ∨ (l.all dgt = true ∧ pn l = none) := by
  cases hx : l.all dgt
  · exact .inl rfl
  · exact .inr ⟨rfl, h⟩

theorem all_drop48 : ∀ (f : List Int), (f.dropWhile (· == 48)).all dgt = f.all dgt ∧ (f.all dgt = true → dval (f.dropWhile (· == 48)) = dval f)
  | [] => ⟨rfl, fun _ => rfl⟩
  | x :: xs => by
    by_cases e : x = 48
    · subst e
      obtain ⟨h1, h2⟩ := all_drop48 xs
      have hd : dgt 48 = true := by decide
      refine ⟨by simp [h1, hd], fun h => ?_⟩
      simp only [List.all_cons, hd, Bool.true_and] at h
      simp only [List.dropWhile_cons, beq_self_eq_true, if_true, h2 h]
      simp [dval]
    · have : (x == 48) = false := by simpa using e
      simp [this]
theorem drop48_head : ∀ (f : List Int), nthD 0 (f.dropWhile (· == 48)) 0 ≠ 48
  | [] => by simp [nthD]
  | x :: xs => by
    by_cases e : x = 48
    · subst e; simpa [List.dropWhile_cons] using drop48_head xs
    · have : (x == 48) = false := by simpa using e
      simpa [List.dropWhile_cons, this, nthD] using e

theorem pn_tz (f : List Int) : pn (tz f) = if f.all dgt = true then some (dval f) else none := by
  obtain ⟨h1, h2⟩ := all_drop48 f
  have h3 := drop48_head f
  unfold tz
  by_cases h : f.dropWhile (· == 48) = []
  · rw [if_pos h]
    rw [h] at h1 h2
    rw [← h1]
    have := h2 h1.symm
    simp only [List.all_nil, if_true]
    rw [← this]
    decide
  · rw [if_neg h]
    unfold pn
    rw [if_neg (fun h' => h'.elim h fun h' => h3 h'.2), h1]
    cases hx : f.all dgt
    · rfl
    · simp only [if_true, h2 hx]

theorem d47 : dgt 47 = false := by decide
theorem d46 : dgt 46 = false := by decide

theorem specs (neg : Bool) (l : List Int) : pspec neg l = rspec neg l := by
  unfold pspec
  by_cases hs : hasC 47 l = true
  · rw [if_pos hs]
    have hm : (47 : Int) ∈ l := of_decide_eq_true hs
    have hl := split_has hm
    have hbn := bef_not 47 l
    generalize befC 47 l = a at *
    generalize aftC 47 l = f at *
    subst hl
    cases hx : a.all dgt
    · -- something bad ahead of the stroke
      have hpn : pn a = none := by unfold pn; split <;> simp [hx]
      rw [hpn]
      obtain ⟨c, g, h1, h2, h3, h4⟩ := bad_append a (47 :: f) hx
      have hc : ¬ c = 47 := fun e => hbn (e ▸ h4)
      unfold rspec
      rw [h1, h2]
      cases pn (a.takeWhile dgt) with
      | none => rfl
      | some n =>
        simp only [if_neg hc]
        by_cases h46 : c = 46
        · subst h46
          have : (g ++ 47 :: f).all dgt = false := by simp [d47]
          simp [this]
        · simp [h46]
    · obtain ⟨h1, h2⟩ := takeWhile_append (m := f) d47 hx
      unfold rspec
      rw [h1, h2]
      cases pn a with
      | none => rfl
      | some n =>
        simp only [if_true]
        cases pn f <;> rfl
  · rw [if_neg hs]
    have hm : (47 : Int) ∉ l := fun h => hs (decide_eq_true h)
    by_cases hp : hasC 46 l = true
    · have hm6 : (46 : Int) ∈ l := of_decide_eq_true hp
      have hl := split_has hm6
      have hbn := bef_not 46 l
      have hf : frac l = aftC 46 l := by unfold frac; rw [if_pos hp]
      rw [hf]
      simp only [hp, true_and]
      generalize befC 46 l = a at *
      generalize aftC 46 l = f at *
      subst hl
      cases hx : a.all dgt
      · have hpn : pn a = none := by unfold pn; split <;> simp [hx]
        rw [hpn]
        obtain ⟨c, g, h1, h2, h3, h4⟩ := bad_append a (46 :: f) hx
        have hc : ¬ c = 46 := fun e => hbn (e ▸ h4)
        have hc7 : ¬ c = 47 := fun e => hm (by rw [← e]; simp [h4])
        unfold rspec
        rw [h1, h2]
        cases pn (a.takeWhile dgt) with
        | none => rfl
        | some n => simp [hc7, hc]
      · obtain ⟨h1, h2⟩ := takeWhile_append (m := f) d46 hx
        unfold rspec
        rw [h1, h2]
        cases pn a with
        | none => rfl
        | some n =>
          have e1 : ¬ (46 : Int) = 47 := by decide
          simp only [if_neg e1, not_true, if_false, pn_tz]
          by_cases hfe : f = []
          · simp [hfe]
          · simp only [if_neg hfe]
            cases hfa : f.all dgt <;> simp
    · have hm6 : (46 : Int) ∉ l := fun h => hp (decide_eq_true h)
      have hf : frac l = [] := by unfold frac; rw [if_neg hp]
      rw [hf, split_not hm6]
      have e2 : ¬ (hasC 46 l = true ∧ ([] : List Int) = []) := fun h => hp h.1
      simp only [if_neg e2, pn_tz]
      cases hx : l.all dgt
      · have hpn : pn l = none := by unfold pn; split <;> simp [hx]
        rw [hpn]
        obtain ⟨c, g, h2, h3, h4⟩ := first_bad l hx
        unfold rspec
        rw [h2]
        have hc7 : ¬ c = 47 := fun e => hm (e ▸ h4)
        have hc6 : ¬ c = 46 := fun e => hm6 (e ▸ h4)
        cases pn (l.takeWhile dgt) with
        | none => rfl
        | some n => simp [hc7, hc6]
      · obtain ⟨h1, h2⟩ := takeWhile_all hx
        unfold rspec
        rw [h1, h2]
        cases pn l with
        | none => rfl
        | some n => simp [dval, hp]

end Go.FK


/- The plain law of the second Ratio seat: Reads, the walks. -/
namespace Go.FK

theorem pnR_snd {l : List Int} : (pnR l).2 = 0 ↔ ∃ n, pn l = some n := by
  unfold pnR
  cases h : pn l <;> simp
theorem pnR_some {l : List Int} {n : Nat} (h : pn l = some n) : pnR l = (lim n, 0) := by unfold pnR; rw [h]
theorem pnR_none {l : List Int} (h : pn l = none) : pnR l = ([], 15) := by unfold pnR; rw [h]

theorem bef_length (c : Int) (l : List Int) : (befC c l).length ≤ l.length := (List.takeWhile_prefix _).length_le
theorem aft_length (c : Int) (l : List Int) : (aftC c l).length ≤ l.length := by
  unfold aftC
  rw [List.length_drop]
  have := (List.dropWhile_suffix (l := l) (· != c)).length_le
  omega

theorem made_sg {M n d : Nat} (neg : Bool) (hn : L n ≤ M) (hd : L d ≤ M) (h0 : d ≠ 0) (hM : M ≤ 17592186044415) : Ev (fun k => ratio_made.f k (neg, lim n) (lim d)) (rat (mkRat (sg neg n) d)) :=
  made_ev (sg_zt neg hn) (Nt.of hd) h0 hM
theorem norm_sg {M n d : Nat} (neg : Bool) (hn : L n ≤ M) (hd : L d ≤ M) (hM : M ≤ 17592186044415) : Ev (fun k => ref03_Norm.f k ((neg, lim n), lim d)) (rat (mkRat (sg neg n) d)) :=
  (Rt.mk2 (sg_zt neg hn) (Nt.of hd)).rnorm hM

theorem lim_len_zero (d : Nat) : decide (((lim d).length : Int) = 0) = decide (d = 0) := by
  apply decide_eq_decide.2
  constructor
  · intro h
    exact L_eq_zero (show L d = 0 by unfold L; omega)
  · intro h; subst h; simp [lim_zero]

/-! ### The program -/
theorem parse_rest {fr : ByteArray} {neg : Bool} {n : Nat} {N : Nat} (hN : N ≤ 16777216) (hfr : fr.size ≤ N) (hn : L n ≤ N) :
    Ev (fun k => ratio_Parse.p27 k noRat neg fr (lim n)) (pR (match pn (tz (bs fr)) with
      | none => none
      | some m => some (mkRat (sg neg (n * 10 ^ (bs fr).length + m)) (10 ^ (bs fr).length)))) := by
  have hl := bs_length fr
  refine Ev.turn (fun k => ratio_Parse.p27_succ k _ _ _ _) ?_
  unfold ratio_Parse.e27
  obtain ⟨t, h1, h2⟩ := trim_zero fr
  have hnil : bs (ByteArray.mk #[]) = [] := rfl
  have h48 : bs (ByteArray.mk #[48]) = [48] := rfl
  have htl : t.size ≤ fr.size := by
    rw [← bs_length, ← bs_length, h2]
    exact (List.dropWhile_suffix _).length_le
  have h33 : ∀ u : ByteArray, bs u = tz (bs fr) → u.size ≤ N + 1 → Ev (fun k => ratio_Parse.p33 k noRat neg fr (lim n) u) (pR (match pn (tz (bs fr)) with
      | none => none
      | some m => some (mkRat (sg neg (n * 10 ^ (bs fr).length + m)) (10 ^ (bs fr).length)))) := by
    intro u hu hus
    refine Ev.turn (fun k => ratio_Parse.p33_succ k _ _ _ _ _) ?_
    unfold ratio_Parse.e33
    have hp := nat_Parse_ev u (by omega)
    rw [hu] at hp
    refine Ev.bind hp ?_
    cases hc : pn (tz (bs fr)) with
    | none => rw [pnR_none hc]; exact Ev.tru rfl Ev.pure
    | some m =>
      obtain ⟨_, _, _, hLm⟩ := pn_some hc
      rw [← hu, bs_length] at hLm
      rw [pnR_some hc]
      have l10 := L_ten fr.size
      have n10 : Nt (2 * N + 3) (lim (10 ^ fr.size)) (10 ^ fr.size) := Nt.of (by omega)
      have nn : Nt (2 * N + 3) (lim n) n := Nt.of (by omega)
      have lmul := L_mul n (10 ^ fr.size)
      have np : Nt (2 * N + 3) (lim (n * 10 ^ fr.size)) (n * 10 ^ fr.size) := Nt.of (by omega)
      have nm : Nt (2 * N + 3) (lim m) m := Nt.of (by omega)
      have ladd := L_add (n * 10 ^ fr.size) m
      refine Ev.fls rfl (Ev.bind (ten_ev (n := fr.size) (by omega)) (Ev.bind (nn.mul n10 (by omega)) (Ev.bind (np.add nm (by omega)) ?_)))
      have h10 : (10 : Nat) ^ fr.size ≠ 0 := Nat.ne_of_gt (Nat.pow_pos (by omega))
      rw [hl]
      exact Ev.bind (made_sg (M := 3 * N + 10) neg (by omega) (by omega) h10 (by omega)) Ev.pure
  refine Ev.bind h1 ?_
  rw [beq_bs, hnil, h2]
  unfold tz at h33
  by_cases h : (bs fr).dropWhile (· == 48) = []
  · refine Ev.tru (dec_t h) ?_
    exact h33 _ (by rw [if_pos h, h48]) (by show 1 ≤ _; omega)
  · refine Ev.fls (dec_f h) ?_
    exact h33 _ (by rw [if_neg h, h2]) (by omega)

theorem noRat_eq : (((false, ([] : List Int)), ([] : List Int)) : RR) = noRat := rfl

def sgn0 (l : List Int) : Bool := decide (nthD 0 l 0 = 45 ∧ 0 < l.length)
def body (l : List Int) : List Int := if sgn0 l = true then l.drop 1 else l

theorem ratio_Parse_ev (s : ByteArray) {N : Nat} (hN : N ≤ 16777216) (hs : s.size ≤ N) : Ev (fun k => ratio_Parse.f k s) (pR (pspec (sgn0 (bs s)) (body (bs s)))) := by
  have hl := bs_length s
  obtain ⟨s', hp, hb, hs'⟩ : ∃ s', Ev (fun k => strings_CutPrefix.f k s (ByteArray.mk #[45])) (s', sgn0 (bs s)) ∧ bs s' = body (bs s) ∧ s'.size ≤ N := by
    have h := prefix_ev s 45
    unfold body sgn0
    by_cases c : nthD 0 (bs s) 0 = ((45 : UInt8).toNat : Int) ∧ 0 < s.size
    · rw [if_pos c] at h
      have c' : nthD 0 (bs s) 0 = 45 ∧ 0 < (bs s).length := ⟨c.1, by omega⟩
      rw [dec_t c', if_pos rfl]
      exact ⟨_, h, by rw [bs_extract, ← hl, List.take_length], by rw [ByteArray.size_extract]; omega⟩
    · rw [if_neg c] at h
      have c' : ¬ (nthD 0 (bs s) 0 = 45 ∧ 0 < (bs s).length) := fun h => c ⟨h.1, by omega⟩
      rw [dec_f c', if_neg (by simp)]
      exact ⟨_, h, rfl, hs⟩
  rw [← hb]
  generalize sgn0 (bs s) = neg at *
  have hl' := bs_length s'
  have p15 : Ev (fun k => ratio_Parse.p15 k noRat) (pR none) := Ev.turn (fun k => ratio_Parse.p15_succ k _) Ev.pure
  have p25 : Ev (fun k => ratio_Parse.p25 k noRat) (pR none) := Ev.turn (fun k => ratio_Parse.p25_succ k _) Ev.pure
  unfold ratio_Parse.f ratio_Parse.e
  obtain ⟨x, y, hc, ht, hf⟩ := cut_ev s' 47 (by omega)
  have e47 : (((47 : UInt8).toNat : Nat) : Int) = 47 := rfl
  rw [e47] at hc ht hf
  refine Ev.bind hp (Ev.bind hc ?_)
  unfold pspec
  by_cases h47 : hasC 47 (bs s') = true
  · rw [if_pos h47]
    obtain ⟨hx, hy⟩ := ht h47
    have hxs : x.size ≤ N := by have := bef_length 47 (bs s'); rw [← hx, bs_length] at this; omega
    have hys : y.size ≤ N := by have := aft_length 47 (bs s'); rw [← hy, bs_length] at this; omega
    refine Ev.tru h47 ?_
    have q1 := nat_Parse_ev x (by omega)
    have q2 := nat_Parse_ev y (by omega)
    rw [← hx, ← hy]
    refine Ev.bind q1 (Ev.bind q2 ?_)
    cases h1 : pn (bs x) with
    | none =>
      rw [pnR_none h1]
      exact Ev.tru rfl p15
    | some n =>
      rw [pnR_some h1]
      refine Ev.fls rfl ?_
      cases h2 : pn (bs y) with
      | none => rw [pnR_none h2]; exact Ev.tru rfl p15
      | some d =>
        rw [pnR_some h2]
        refine Ev.fls rfl ?_
        rw [lim_len_zero]
        have b1 := (pn_some h1).2.2.2
        have b2 := (pn_some h2).2.2.2
        rw [bs_length] at b1 b2
        by_cases hd : d = 0
        · simp only [if_pos hd]
          exact Ev.tru (dec_t hd) p15
        · simp only [if_neg hd]
          exact Ev.fls (dec_f hd) (Ev.bind (made_sg (M := N) neg (by omega) (by omega) hd (by omega)) Ev.pure)
  · rw [if_neg h47]
    have h47' : hasC 47 (bs s') = false := by simpa using h47
    obtain ⟨rfl, rfl⟩ := hf h47'
    refine Ev.fls h47' ?_
    obtain ⟨x', y', hc, ht, hf⟩ := cut_ev x 46 (by omega)
    have e46 : (((46 : UInt8).toNat : Nat) : Int) = 46 := rfl
    rw [e46] at hc ht hf
    refine Ev.bind hc ?_
    have hxy : bs x' = befC 46 (bs x) ∧ bs y' = frac (bs x) := by
      by_cases h46 : hasC 46 (bs x) = true
      · unfold frac; rw [if_pos h46]; exact ht h46
      · have h46' : hasC 46 (bs x) = false := by simpa using h46
        obtain ⟨rfl, rfl⟩ := hf h46'
        unfold frac; rw [if_neg h46, split_not (fun h => h46 (decide_eq_true h))]
        exact ⟨rfl, rfl⟩
    obtain ⟨hx, hy⟩ := hxy
    have hxs : x'.size ≤ N := by have := bef_length 46 (bs x); rw [← hx, bs_length] at this; omega
    have hys : y'.size ≤ N := by
      have : (frac (bs x)).length ≤ (bs x).length := by unfold frac; split; exact aft_length _ _; simp
      rw [← hy, bs_length] at this; omega
    rw [← hx, ← hy]
    refine Ev.bind (nat_Parse_ev x' (by omega)) ?_
    cases h1 : pn (bs x') with
    | none => rw [pnR_none h1]; exact Ev.tru rfl p25
    | some n =>
      rw [pnR_some h1]
      refine Ev.fls rfl ?_
      have b1 := (pn_some h1).2.2.2
      rw [bs_length] at b1
      have hrest := parse_rest (neg := neg) (n := n) hN hys (by omega)
      by_cases h46 : hasC 46 (bs x) = true
      · refine Ev.tru h46 ?_
        rw [beq_bs]
        by_cases he : bs y' = []
        · simp only [h46, he, and_self, if_true]
          exact Ev.tru (dec_t rfl) p25
        · have hne : ¬ (hasC 46 (bs x) = true ∧ bs y' = []) := fun h => he h.2
          simp only [if_neg hne]
          exact Ev.fls (dec_f he) hrest
      · have hne : ¬ (hasC 46 (bs x) = true ∧ bs y' = []) := fun h => h46 h.1
        simp only [if_neg hne]
        exact Ev.fls (by simpa using h46) hrest

end Go.FK


/- The plain law of the second Ratio seat: Reads, the reference's walk and the law. -/
namespace Go.FK

theorem take_split {l : List Int} {i : Nat} (h : (l.take i).all dgt = true) (hi : i ≤ l.length) (hb : i = l.length ∨ dgt (nthD 0 l i) = false) : l.takeWhile dgt = l.take i ∧ l.dropWhile dgt = l.drop i := by
  by_cases hl : i = l.length
  · subst hl
    rw [List.take_length] at h ⊢
    rw [List.drop_length]
    exact takeWhile_all h
  · have hb' : dgt (nthD 0 l i) = false := hb.resolve_left hl
    have hil : i < l.length := by omega
    have e : l = l.take i ++ nthD 0 l i :: l.drop (i + 1) := by
      have h1 := List.drop_eq_getElem_cons hil
      have h2 : nthD 0 l i = l[i] := by rw [nthD_eq, List.getD_eq_getElem?_getD, List.getElem?_eq_getElem hil]; rfl
      rw [h2, ← h1, List.take_append_drop]
    have hd : l.drop i = nthD 0 l i :: l.drop (i + 1) := by
      have h1 := List.drop_eq_getElem_cons hil
      have h2 : nthD 0 l i = l[i] := by rw [nthD_eq, List.getD_eq_getElem?_getD, List.getElem?_eq_getElem hil]; rfl
      rw [h2]; exact h1
    obtain ⟨h1, h2⟩ := takeWhile_append (m := l.drop (i + 1)) hb' h
    rw [← e] at h1 h2
    exact ⟨h1, h2.trans hd.symm⟩

theorem rfrac_p4 {N : Nat} (hN : N ≤ 16777216) (neg : Bool) (r : ByteArray) (f : List Int) (hr : bs r = 46 :: f) (hsz : r.size ≤ N) (n : Nat) (hn : L n ≤ N) : ∀ (m j : Nat), m + j = f.length → (f.take j).all dgt = true →
    Ev (fun k => ref03_Parse.p4 k noRat neg (lim (n * 10 ^ j + dval (f.take j))) r (lim (10 ^ j)) ((j + 1 : Nat) : Int)) (pR (if f.all dgt = true then some (mkRat (sg neg (n * 10 ^ f.length + dval f)) (10 ^ f.length)) else none)) := by
  have hlr := bs_length r
  rw [hr, List.length_cons] at hlr
  have p53 : Ev (fun k => ref03_Parse.p53 k noRat) (pR none) := Ev.turn (fun k => ref03_Parse.p53_succ k _) Ev.pure
  have lim_ : ∀ j, j ≤ f.length → (f.take j).all dgt = true → L (n * 10 ^ j + dval (f.take j)) ≤ 3 * N + 10 ∧ L (n * 10 ^ j) ≤ 3 * N + 8 ∧ L (10 ^ j) ≤ 3 * N := by
    intro j hj ha
    have l1 := L_ten j
    have l2 := L_mul n (10 ^ j)
    have l3 := L_dval ha
    rw [List.length_take] at l3
    have l4 := L_add (n * 10 ^ j) (dval (f.take j))
    omega
  intro m
  induction m with
  | zero =>
    intro j hj ha
    obtain ⟨b1, b2, b3⟩ := lim_ j (by omega) ha
    refine Ev.turn (fun k => ref03_Parse.p4_succ k _ _ _ _ _ _) ?_
    unfold ref03_Parse.e4
    have ej : j = f.length := by omega
    subst ej
    rw [List.take_length] at ha b1 ⊢
    rw [if_pos ha]
    exact Ev.fls (dec_f (by omega)) (Ev.bind (norm_sg (M := 3 * N + 10) neg (by omega) (by omega) (by omega)) Ev.pure)
  | succ m ih =>
    intro j hj ha
    obtain ⟨b1, b2, b3⟩ := lim_ j (by omega) ha
    have hjl : j < f.length := by omega
    refine Ev.turn (fun k => ref03_Parse.p4_succ k _ _ _ _ _ _) ?_
    unfold ref03_Parse.e4
    have hc : nthD 0 (bs r) (j + 1) = nthD 0 f j := by rw [hr]; rfl
    have hm : nthD 0 f j ∈ bs r := by
      rw [hr, nthD_eq, List.getD_eq_getElem?_getD, List.getElem?_eq_getElem hjl]
      exact List.mem_cons_of_mem _ (List.getElem_mem hjl)
    have hx := bs_range r _ hm
    rw [bs_btI, hc]
    have hnext := @all_take f j hjl ha
    have hnot := @all_not f j hjl
    have hdv := @dval_take_succ f j hjl
    generalize nthD 0 f j = x at *
    refine Ev.tru (dec_t (by omega)) (Ev.tru (by simp; omega) ?_)
    by_cases h1 : x < 48
    · rw [hnot (by simp [dgt]; omega)]
      exact Ev.tru (dec_t h1) p53
    refine Ev.fls (dec_f h1) (Ev.tru (by simp; omega) ?_)
    by_cases h2 : x > 57
    · rw [hnot (by simp [dgt]; omega)]
      exact Ev.tru (dec_t h2) p53
    refine Ev.fls (dec_f h2) ?_
    have w1 : IntKind.u8.wrap (x - 48) = x - 48 := by
      have : IntKind.u8.wrap (x - 48) = (x - 48) % 256 := by simp [IntKind.wrap, IntKind.signed, IntKind.bits]
      rw [this]; omega
    have w2 : IntKind.u32.wrap (x - 48) = x - 48 := wrap_u32_id (by omega) (by omega)
    have w3 : IntKind.i64.wrap (((j + 1 : Nat) : Int) + 1) = ((j + 1 + 1 : Nat) : Int) := by rw [wrap_i64 (by omega) (by omega)]; omega
    rw [w1, w2, w3]
    have hdg : dgt x = true := by simp [dgt]; omega
    obtain ⟨c1, c2, c3⟩ := lim_ (j + 1) (by omega) (hnext hdg)
    have n0 : Nt (3 * N + 12) (lim (n * 10 ^ j + dval (f.take j))) (n * 10 ^ j + dval (f.take j)) := Nt.of (by omega)
    have n1 : Nt (3 * N + 12) [10] 10 := (Nt.one (x := 10) (by simp [B])).mono (by omega)
    have n2 : Nt (3 * N + 12) (lim ((n * 10 ^ j + dval (f.take j)) * 10)) ((n * 10 ^ j + dval (f.take j)) * 10) := Nt.of (by
      have := L_mul (n * 10 ^ j + dval (f.take j)) 10
      have := L_small (n := 10) (by omega)
      omega)
    have n3 : Nt (3 * N + 12) [x - 48] (x - 48).toNat := (Nt.one (x := x - 48) (by simp only [B]; omega)).mono (by omega)
    have n4 : Nt (3 * N + 12) (lim (10 ^ j)) (10 ^ j) := Nt.of (by omega)
    have hi := ih (j + 1) (by omega) (hnext hdg)
    have e1 : n * 10 ^ (j + 1) + dval (f.take (j + 1)) = (n * 10 ^ j + dval (f.take j)) * 10 + (x - 48).toNat := by
      rw [hdv, Nat.pow_succ, ← Nat.mul_assoc]; omega
    rw [e1, Nat.pow_succ] at hi
    exact Ev.bind (n0.rmul n1 (by omega)) (Ev.tru (by simp; omega) (Ev.bind (n2.radd n3 (by omega)) (Ev.bind (n4.rmul n1 (by omega)) hi)))

theorem rparse_p17 {N : Nat} (hN : N ≤ 16777216) (neg : Bool) (s : ByteArray) (hs : s.size ≤ N) (i : Nat) (hi : i ≤ s.size) (ha : ((bs s).take i).all dgt = true) (hb : i = s.size ∨ dgt (nthD 0 (bs s) i) = false) :
    Ev (fun k => ref03_Parse.p17 k noRat s neg (i : Int)) (pR (rspec neg (bs s))) := by
  have hl := bs_length s
  obtain ⟨t1, t2⟩ := take_split ha (by omega) (hb.imp (fun h => by omega) id)
  refine Ev.turn (fun k => ref03_Parse.p17_succ k _ _ _ _) ?_
  unfold ref03_Parse.e17 rspec
  rw [t1, t2]
  have p35 : Ev (fun k => ref03_Parse.p35 k noRat) (pR none) := Ev.turn (fun k => ref03_Parse.p35_succ k _) Ev.pure
  have p41 : Ev (fun k => ref03_Parse.p41 k noRat) (pR none) := Ev.turn (fun k => ref03_Parse.p41_succ k _) Ev.pure
  have hx : bs (s.extract 0 i) = (bs s).take i := by rw [bs_extract, List.drop_zero]
  have hy : bs (s.extract (Int.toNat (i : Int)) (Int.toNat (s.size : Int))) = (bs s).drop i := by rw [Int.toNat_natCast, Int.toNat_natCast, bs_extract, ← hl, List.take_length]
  have hxs : (s.extract 0 i).size ≤ N := by rw [ByteArray.size_extract]; omega
  have hys : (s.extract (Int.toNat (i : Int)) (Int.toNat (s.size : Int))).size ≤ N := by rw [ByteArray.size_extract, Int.toNat_natCast, Int.toNat_natCast]; omega
  have q1 := ref01_Parse_ev (s.extract 0 i) (by omega)
  rw [hx] at q1
  refine Ev.tru (by simp; omega) (Ev.bind q1 ?_)
  cases h1 : pn ((bs s).take i) with
  | none => rw [pnR_none h1]; exact Ev.tru rfl Ev.pure
  | some n =>
    rw [pnR_some h1]
    have bn := (pn_some h1).2.2.2
    rw [List.length_take] at bn
    refine Ev.fls rfl (Ev.tru (by simp; omega) ?_)
    generalize (bs s).drop i = d at *
    generalize s.extract (Int.toNat (i : Int)) (Int.toNat (s.size : Int)) = r at *
    have hlr := bs_length r
    have e1 : ([1] : List Int) = lim 1 := lim_one.symm
    have hr : bs r = d := hy
    cases d with
    | nil =>
      rw [hr, List.length_nil] at hlr
      refine Ev.tru (dec_t (by omega)) ?_
      rw [e1]
      exact Ev.bind (norm_sg (M := N + 1) neg (by omega) (by rw [L_one]; omega) (by omega)) Ev.pure
    | cons c f =>
      rw [hr, List.length_cons] at hlr
      have hc0 : nthD 0 (bs r) 0 = c := by rw [hr]; rfl
      rw [bs_btI0, hc0]
      refine Ev.fls (dec_f (by omega)) (Ev.tru (dec_t (by omega)) ?_)
      by_cases h47 : c = 47
      · simp only [if_pos h47]
        refine Ev.tru (dec_t h47) (Ev.tru (by simp; omega) ?_)
        have hz : bs (r.extract 1 r.size) = f := by rw [bs_extract, ← bs_length r, List.take_length, hr]; rfl
        have q2 := ref01_Parse_ev (r.extract 1 r.size) (by rw [ByteArray.size_extract]; omega)
        rw [hz] at q2
        refine Ev.bind q2 ?_
        cases h2 : pn f with
        | none => rw [pnR_none h2]; exact Ev.tru rfl p35
        | some d =>
          rw [pnR_some h2]
          have bd := (pn_some h2).2.2.2
          refine Ev.fls rfl ?_
          rw [lim_len_zero]
          by_cases hd : d = 0
          · simp only [if_pos hd]
            exact Ev.tru (dec_t hd) p35
          · simp only [if_neg hd]
            exact Ev.fls (dec_f hd) (Ev.bind (norm_sg (M := N) neg (by omega) (by omega) (by omega)) Ev.pure)
      · simp only [if_neg h47]
        refine Ev.fls (dec_f h47) (Ev.tru (dec_t (by omega)) ?_)
        by_cases h46 : c = 46
        · have h46' : ¬ ¬ c = 46 := fun h => h h46
          simp only [if_neg h46']
          refine Ev.fls (by rw [dec_t h46]; rfl) ?_
          by_cases hf : f = []
          · simp only [if_pos hf]
            subst hf
            rw [List.length_nil] at hlr
            exact Ev.tru (dec_t (by omega)) p41
          · simp only [if_neg hf]
            have hfl : f.length ≠ 0 := fun h => hf (List.length_eq_zero_iff.1 h)
            refine Ev.fls (dec_f (by omega)) ?_
            have := rfrac_p4 hN neg r f (by rw [hr, h46]) hys n (by omega) f.length 0 (by omega) (by simp)
            simp only [Nat.pow_zero, Nat.mul_one, List.take_zero] at this
            have ed : dval [] = 0 := rfl
            rw [ed, Nat.add_zero, ← e1] at this
            exact this
        · simp only [if_pos h46]
          exact Ev.tru (by rw [dec_f h46]; rfl) p41

theorem rparse_scan {N : Nat} (hN : N ≤ 16777216) (neg : Bool) (s : ByteArray) (hs : s.size ≤ N) : ∀ (m i : Nat), m + i = s.size → ((bs s).take i).all dgt = true → Ev (fun k => ref03_Parse.p0 k noRat s neg (i : Int)) (pR (rspec neg (bs s))) := by
  have hl := bs_length s
  intro m
  induction m with
  | zero =>
    intro i hi ha
    refine Ev.turn (fun k => ref03_Parse.p0_succ k _ _ _ _) ?_
    unfold ref03_Parse.e0
    exact Ev.fls (dec_f (by omega)) (rparse_p17 hN neg s hs i (by omega) ha (.inl (by omega)))
  | succ m ih =>
    intro i hi ha
    refine Ev.turn (fun k => ref03_Parse.p0_succ k _ _ _ _) ?_
    unfold ref03_Parse.e0
    have h17 := rparse_p17 hN neg s hs i (by omega) ha
    have hnext := @all_take (bs s) i (by omega) ha
    rw [bs_btI]
    generalize nthD 0 (bs s) i = x at *
    have e5 : IntKind.i64.wrap ((i : Int) + 1) = ((i + 1 : Nat) : Int) := by rw [wrap_i64 (by omega) (by omega)]; omega
    simp only [e5]
    refine Ev.tru (dec_t (by omega)) (Ev.tru (by simp; omega) ?_)
    by_cases h1 : x ≥ 48
    · refine Ev.tru (dec_t h1) (Ev.tru (by simp; omega) ?_)
      by_cases h2 : x ≤ 57
      · exact Ev.tru (dec_t h2) (ih (i + 1) (by omega) (hnext (by simp [dgt]; omega)))
      · exact Ev.fls (dec_f h2) (h17 (.inr (by simp [dgt]; omega)))
    · exact Ev.fls (dec_f h1) (h17 (.inr (by simp [dgt]; omega)))

theorem ref03_Parse_ev (s : ByteArray) {N : Nat} (hN : N ≤ 16777216) (hs : s.size ≤ N) : Ev (fun k => ref03_Parse.f k s) (pR (rspec (sgn0 (bs s)) (body (bs s)))) := by
  have hl := bs_length s
  have p11 : ∀ (neg : Bool) (t : ByteArray), t.size ≤ N → Ev (fun k => ref03_Parse.p11 k noRat t neg) (pR (rspec neg (bs t))) := fun neg t ht => by
    refine Ev.turn (fun k => ref03_Parse.p11_succ k _ _ _) ?_
    unfold ref03_Parse.e11
    exact rparse_scan hN neg t ht t.size 0 (by omega) (by simp)
  unfold ref03_Parse.f ref03_Parse.e body sgn0
  by_cases h0 : 0 < s.size
  · refine Ev.tru (dec_t (by omega)) (Ev.tru (dec_t (by omega)) ?_)
    rw [bs_btI0]
    by_cases h : nthD 0 (bs s) 0 = 45
    · have hc : nthD 0 (bs s) 0 = 45 ∧ 0 < (bs s).length := ⟨h, by omega⟩
      rw [dec_t hc, if_pos rfl]
      refine Ev.tru (dec_t h) (Ev.tru (by simp; omega) ?_)
      have := p11 true (s.extract 1 s.size) (by rw [ByteArray.size_extract]; omega)
      rw [bs_extract, ← hl, List.take_length] at this
      rw [hl] at this
      exact this
    · have hc : ¬ (nthD 0 (bs s) 0 = 45 ∧ 0 < (bs s).length) := fun h' => h h'.1
      rw [dec_f hc, if_neg (by simp)]
      exact Ev.fls (dec_f h) (p11 false s hs)
  · have hc : ¬ (nthD 0 (bs s) 0 = 45 ∧ 0 < (bs s).length) := fun h' => h0 (by omega)
    rw [dec_f hc, if_neg (by simp)]
    exact Ev.fls (dec_f (by omega)) (p11 false s hs)

theorem rspec_LQ {neg : Bool} {l : List Int} {q : Rat} (h : rspec neg l = some q) : LQ q ≤ 5 * l.length + 20 := by
  have b0 : (l.takeWhile dgt).length + (l.dropWhile dgt).length = l.length := by
    rw [← List.length_append, List.takeWhile_append_dropWhile]
  unfold rspec at h
  split at h
  · cases h
  · rename_i n hn
    have b1 := (pn_some hn).2.2.2
    split at h
    · simp only [Option.some.injEq] at h
      rw [← h]
      refine Nat.le_trans (LQ_mkRat _ _) ?_
      rw [LZ_sg, L_one]; simp; omega
    · rename_i c f hd
      rw [hd, List.length_cons] at b0
      split at h
      · split at h
        · rename_i d hp
          have b2 := (pn_some hp).2.2.2
          split at h
          · cases h
          · simp only [Option.some.injEq] at h
            rw [← h]
            refine Nat.le_trans (LQ_mkRat _ _) ?_
            rw [LZ_sg]
            have : max (L d) 1 ≤ L d + 1 := by omega
            omega
        · cases h
      · split at h
        · cases h
        · split at h
          · cases h
          · split at h
            · rename_i hall
              simp only [Option.some.injEq] at h
              rw [← h]
              refine Nat.le_trans (LQ_mkRat _ _) ?_
              rw [LZ_sg]
              have l1 := L_ten f.length
              have l2 := L_mul n (10 ^ f.length)
              have l3 := L_dval hall
              have l4 := L_add (n * 10 ^ f.length) (dval f)
              omega
            · cases h

end Go.FK
