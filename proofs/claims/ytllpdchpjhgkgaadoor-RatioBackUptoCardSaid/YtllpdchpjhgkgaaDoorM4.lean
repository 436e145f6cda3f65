import Derived.Test.YtllpdchpjhgkgaaDoorM3
import Derived.Laws.StructEq
import Derived.Lib.Bytealg

/- The plain law of the second Ratio seat: reading numbers from letters. -/
namespace Go.FK

/-! ### Letters as numbers -/
def bs (s : ByteArray) : List Int := s.data.toList.map fun b => (b.toNat : Int)
theorem bs_length (s : ByteArray) : (bs s).length = s.size := by
  simp only [bs, List.length_map, Array.length_toList]; rfl
theorem bs_btI (s : ByteArray) (i : Nat) : btI s (i : Int) = nthD 0 (bs s) i := by
  unfold btI
  rw [nthD_eq, List.getD_eq_getElem?_getD]
  by_cases h : i < s.size
  · have h' : (i : Int).toNat < s.size := by simpa using h
    rw [dif_pos h']
    have h2 : i < s.data.toList.length := by rw [Array.length_toList]; exact h
    simp [bs, ByteArray.getElem_eq_getElem_data, h]
  · have h' : ¬ (i : Int).toNat < s.size := by simpa using h
    rw [dif_neg h', List.getElem?_eq_none (by rw [bs_length]; omega)]
    rfl
theorem bs_btI0 (s : ByteArray) : btI s (0 : Int) = nthD 0 (bs s) 0 := bs_btI s 0
theorem bs_extract (s : ByteArray) (i j : Nat) : bs (s.extract i j) = ((bs s).take j).drop i := by
  simp only [bs, ByteArray.data_extract, Array.toList_extract, List.extract_eq_take_drop, List.map_drop, List.map_take]
  rw [List.drop_take]
theorem bs_inj {a b : ByteArray} (h : bs a = bs b) : a = b := by
  apply WideShapes.bytes_inj
  exact (List.map_inj_right fun (x y : UInt8) (h' : (x.toNat : Int) = y.toNat) => UInt8.toNat_inj.1 (by omega)).1 h
theorem beq_bs (a b : ByteArray) : (a.toList == b.toList) = decide (bs a = bs b) := by
  by_cases h : bs a = bs b
  · rw [dec_t h, bs_inj h]; simp
  · rw [dec_f h]
    cases hx : a.toList == b.toList with
    | false => rfl
    | true =>
      have hx := eq_of_beq hx
      rw [ByteArray.toList_eq, ByteArray.toList_eq] at hx
      exact absurd (by unfold bs; rw [hx]) h
theorem bs_range (s : ByteArray) : ∀ x ∈ bs s, 0 ≤ x ∧ x < 256 := by
  intro x hx
  simp only [bs, List.mem_map] at hx
  obtain ⟨b, _, rfl⟩ := hx
  have := b.toNat_lt
  omega

/-! ### Numbers -/
def dgt (c : Int) : Bool := decide (48 ≤ c) && decide (c ≤ 57)
def dval (l : List Int) : Nat := l.foldl (fun a c => a * 10 + (c - 48).toNat) 0
def pn (l : List Int) : Option Nat := if l = [] ∨ (1 < l.length ∧ nthD 0 l 0 = 48) then none else if l.all dgt then some (dval l) else none
def pnR (l : List Int) : List Int × Int := match pn l with
  | some n => (lim n, 0)
  | none => ([], 15)

theorem dval_snoc (l : List Int) (c : Int) : dval (l ++ [c]) = dval l * 10 + (c - 48).toNat := by simp [dval]
theorem dval_take_succ {l : List Int} {i : Nat} (h : i < l.length) : dval (l.take (i + 1)) = dval (l.take i) * 10 + (nthD 0 l i - 48).toNat := by rw [take_succ_get h, dval_snoc]
theorem dval_lt : ∀ (n : Nat) (l : List Int), l.length = n → l.all dgt = true → dval l < 10 ^ n := by
  intro n
  induction n with
  | zero => intro l hl _; rw [List.length_eq_zero_iff.1 hl]; decide
  | succ n ih =>
    intro l hl ha
    obtain ⟨m, c, rfl⟩ : ∃ m c, l = m ++ [c] := ⟨l.dropLast, l.getLast (by intro h; simp [h] at hl), (List.dropLast_concat_getLast _).symm⟩
    simp only [List.all_append, List.all_cons, List.all_nil, Bool.and_true, Bool.and_eq_true] at ha
    have := ih m (by simpa using hl) ha.1
    have h2 := ha.2
    simp only [dgt, Bool.and_eq_true, decide_eq_true_eq] at h2
    rw [dval_snoc, Nat.pow_succ]
    omega
theorem L_dval {l : List Int} (h : l.all dgt = true) : L (dval l) ≤ l.length := by
  apply L_le
  have h1 := dval_lt _ l rfl h
  exact Nat.lt_of_lt_of_le h1 (Nat.pow_le_pow_left (by omega) _)

theorem all_take {l : List Int} {i : Nat} (h : i < l.length) (h1 : (l.take i).all dgt = true) (h2 : dgt (nthD 0 l i) = true) : (l.take (i + 1)).all dgt = true := by
  rw [take_succ_get h, List.all_append, h1]; simp [h2]
theorem all_not {l : List Int} {i : Nat} (h : i < l.length) (h2 : dgt (nthD 0 l i) = false) : l.all dgt = false := by
  cases hx : l.all dgt with
  | false => rfl
  | true =>
    have hm : nthD 0 l i ∈ l := by
      rw [nthD_eq, List.getD_eq_getElem?_getD, List.getElem?_eq_getElem h]
      exact List.getElem_mem h
    have := List.all_eq_true.1 hx _ hm
    rw [h2] at this
    cases this

/-! ### The program's reading of a number -/
theorem parse_p4 (a : List Int) (s : ByteArray) (sz i : Int) (ha : Lim a) (hl : a.length ≤ 35184372088) (d : Nat) (R : List Int × Int)
    (hR : ∀ c, Lim c → V c = V a * 10 + d → c.length ≤ a.length + 1 → Ev (fun k => nat_Parse.p45 k c s 10 sz i) R) : ∀ (m j : Nat) (c : List Int) (r : Nat), m + j = a.length → c.length = a.length → Lim c → r ≤ 9 → c.drop j = a.drop j → V (c.take j) + B ^ j * r = V (a.take j) * 10 + d →
      Ev (fun k => nat_Parse.p4 k c s 10 r sz i (a.length : Int) (j : Int)) R := by
  intro m
  induction m with
  | zero =>
    intro j c r hj hc hlc hr hd hV
    have ej : j = a.length := by omega
    subst ej
    refine Ev.turn (fun k => nat_Parse.p4_succ k _ _ _ _ _ _ _ _) ?_
    unfold nat_Parse.e4
    rw [List.take_length, show c.take a.length = c by rw [← hc, List.take_length]] at hV
    refine Ev.fls (by simp) ?_
    by_cases h0 : r = 0
    · subst h0
      refine Ev.fls (by simp) (hR c hlc ?_ (by omega))
      simpa using hV
    · have ew : IntKind.u32.wrap (r : Int) = r := wrap_u32_id (by omega) (by omega)
      rw [ew]
      refine Ev.tru (by simp; omega) (Ev.tru (by simp only [List.length_cons, List.length_nil, Bool.and_eq_true, Nat.ble_eq]; omega) (hR _ ?_ ?_ (by simp; omega)))
      · intro x hx
        rcases List.mem_append.1 hx with hx | hx
        · exact hlc x hx
        · simp only [List.mem_singleton] at hx; subst hx; simp only [B]; omega
      · rw [V_append, hc, ← hV]
        simp [V]
  | succ m ih =>
    intro j c r hj hc hlc hr hd hV
    refine Ev.turn (fun k => nat_Parse.p4_succ k _ _ _ _ _ _ _ _) ?_
    unfold nat_Parse.e4
    have hjl : j < a.length := by omega
    have hx := ha.get' j
    have hcj : nthD 0 c j = nthD 0 a j := by
      have e1 : c.drop j = c[j] :: c.drop (j + 1) := List.drop_eq_getElem_cons (by omega)
      have e2 : a.drop j = a[j] :: a.drop (j + 1) := List.drop_eq_getElem_cons (by omega)
      rw [e1, e2] at hd
      rw [nthD_eq, nthD_eq, List.getD_eq_getElem?_getD, List.getD_eq_getElem?_getD, List.getElem?_eq_getElem (by omega), List.getElem?_eq_getElem (by omega)]
      simpa using (List.cons.inj hd).1
    have hb : nthD 0 a j < 4294967296 := by have := hx.2; simpa only [B] using this
    have w1 : IntKind.u64.wrap (10 : Int) = 10 := by decide
    have w2 : IntKind.u64.wrap (nthD 0 a j) = nthD 0 a j := wrap_u64_id (by omega) (by omega)
    have w3 : IntKind.u64.wrap (nthD 0 a j * 10) = nthD 0 a j * 10 := wrap_u64_id (by omega) (by omega)
    have w4 : IntKind.u64.wrap (nthD 0 a j * 10 + (r : Int)) = nthD 0 a j * 10 + r := wrap_u64_id (by omega) (by omega)
    have w5 : IntKind.u64.wrap (nthD 0 a j * 10 + (r : Int)) = nthD 0 a j * 10 + r := w4
    have w6 : IntKind.u32.wrap (nthD 0 a j * 10 + (r : Int)) = (nthD 0 a j * 10 + r) % 4294967296 := wrap_u32 _
    have w7 : Int.fdiv (nthD 0 a j * 10 + (r : Int)) (2 ^ 32) = (((nthD 0 a j * 10 + r) / 4294967296).toNat : Nat) := by
      rw [Int.fdiv_eq_ediv_of_nonneg _ (by omega)]; omega
    have w8 : IntKind.i64.wrap ((j : Int) + 1) = ((j + 1 : Nat) : Int) := by rw [wrap_i64 (by omega) (by omega)]; omega
    simp only [Int.toNat_natCast, hcj, w1, w2, w3, w4, w6, w7, w8]
    refine Ev.tru (by simp; omega) (Ev.tru (by simp; omega) (Ev.tru (by simp; omega) ?_))
    refine ih (j + 1) _ _ (by omega) (by rw [length_setN]; exact hc) (hlc.set (by simp only [B]; omega)) (by omega) ?_ ?_
    · rw [drop_setN (by omega)]
      have e1 : c.drop (j + 1) = (c.drop j).drop 1 := by rw [List.drop_drop]
      have e2 : a.drop (j + 1) = (a.drop j).drop 1 := by rw [List.drop_drop]
      rw [e1, e2, hd]
    · rw [V_take_setN (by omega), V_take_succ', Int.pow_succ]
      have h6 : (nthD 0 a j * 10 + r) % 4294967296 + B * (((nthD 0 a j * 10 + (r : Int)) / 4294967296).toNat : Nat) = nthD 0 a j * 10 + r := by
        simp only [B]; omega
      generalize (nthD 0 a j * 10 + (r : Int)) % 4294967296 = u at *
      generalize ((((nthD 0 a j * 10 + (r : Int)) / 4294967296).toNat : Nat) : Int) = v at *
      generalize nthD 0 a j = y at *
      generalize V (a.take j) = A at *
      generalize V (c.take j) = C at *
      generalize B ^ j = β at *
      have : C + β * u + β * B * v = C + β * (u + B * v) := by rw [Int.mul_add, Int.mul_assoc]; omega
      rw [this, h6, Int.mul_add]
      have e3 : β * (y * 10) = β * y * 10 := by rw [Int.mul_assoc]
      rw [e3, Int.add_mul]
      omega

theorem tab_low : ∀ n : Nat, n < 10 → nthD 0 tab_0 n = (n : Int) := by decide
theorem tab_high : ∀ n : Nat, n < 55 → ¬ n < 10 → 10 ≤ nthD 0 tab_0 n := by decide

theorem parse_p0 (s : ByteArray) (hs : s.size ≤ 1073741824) : ∀ (m i : Nat) (c : List Int), m + i = s.size → Lim c → V c = dval ((bs s).take i) → c.length ≤ i → ((bs s).take i).all dgt = true →
    Ev (fun k => nat_Parse.p0 k c s 10 (s.size : Int) (i : Int)) (if (bs s).all dgt then (lim (dval (bs s)), 0) else ([], 15)) := by
  intro m
  induction m with
  | zero =>
    intro i c hi hc hV hcl ha
    refine Ev.turn (fun k => nat_Parse.p0_succ k _ _ _ _ _) ?_
    unfold nat_Parse.e0
    have ei : i = (bs s).length := by rw [bs_length]; omega
    rw [ei, List.take_length] at hV ha
    rw [if_pos ha]
    have hn : Nt i c (dval (bs s)) := ⟨hc, hV, hcl⟩
    exact Ev.fls (by simp; omega) (Ev.bind (hn.own (by omega)) Ev.pure)
  | succ m ih =>
    intro i c hi hc hV hcl ha
    refine Ev.turn (fun k => nat_Parse.p0_succ k _ _ _ _ _) ?_
    unfold nat_Parse.e0
    have hil : i < (bs s).length := by rw [bs_length]; omega
    have hm : nthD 0 (bs s) i ∈ bs s := by
      rw [nthD_eq, List.getD_eq_getElem?_getD, List.getElem?_eq_getElem hil]
      exact List.getElem_mem hil
    have hx := bs_range s _ hm
    have p23 : Ev (fun k => nat_Parse.p23 k ()) (([] : List Int), (15 : Int)) := Ev.turn (fun k => nat_Parse.p23_succ k _) Ev.pure
    rw [bs_btI]
    have hnext := @all_take (bs s) i hil ha
    have hnot := @all_not (bs s) i hil
    have hdv := @dval_take_succ (bs s) i hil
    generalize nthD 0 (bs s) i = x at *
    have e1 : IntKind.i64.wrap x = x := wrap_i64 (by omega) (by omega)
    have e2 : IntKind.i64.wrap (x - 48) = x - 48 := wrap_i64 (by omega) (by omega)
    rw [e1, e2]
    refine Ev.tru (by simp; omega) (Ev.tru (by simp; omega) ?_)
    by_cases h1 : x - 48 < 0
    · rw [hnot (by simp [dgt]; omega)]
      exact Ev.tru (dec_t h1) p23
    refine Ev.fls (dec_f h1) ?_
    by_cases h2 : x - 48 ≥ 55
    · rw [hnot (by simp [dgt]; omega)]
      exact Ev.tru (dec_t h2) p23
    refine Ev.fls (dec_f h2) ?_
    have hlen : tab_0.length = 55 := by decide
    have ew : IntKind.u32.wrap 10 = 10 := by decide
    refine Ev.tru (by rw [hlen]; simp; omega) ?_
    rw [ew]
    by_cases h3 : x - 48 < 10
    · obtain ⟨n, hn⟩ : ∃ n : Nat, x - 48 = n := ⟨(x - 48).toNat, by omega⟩
      have hnl : n < 10 := by omega
      have e3 : nthD 0 tab_0 (Int.toNat (x - 48)) = n := by rw [hn, Int.toNat_natCast]; exact tab_low n hnl
      rw [e3]
      have e4 : IntKind.u64.wrap (n : Int) = n := wrap_u64_id (by omega) (by omega)
      rw [e4]
      refine Ev.fls (by simp; omega) (Ev.tru (by rw [hlen]; simp; omega) ?_)
      refine parse_p4 c s (s.size : Int) (i : Int) hc (by omega) n _ (fun c' k1 k2 k3 => ?_) c.length 0 c n (by omega) rfl hc (by omega) rfl (by simp [V])
      refine Ev.turn (fun k => nat_Parse.p45_succ k _ _ _ _ _) ?_
      unfold nat_Parse.e45
      have e5 : IntKind.i64.wrap ((i : Int) + 1) = ((i + 1 : Nat) : Int) := by rw [wrap_i64 (by omega) (by omega)]; omega
      simp only [e5]
      refine ih (i + 1) c' (by omega) k1 ?_ (by omega) (hnext (by simp [dgt]; omega))
      rw [hdv, k2, hV, hn, Int.toNat_natCast]
      omega
    · have := tab_high (Int.toNat (x - 48)) (by omega) (by omega)
      rw [hnot (by simp [dgt]; omega)]
      exact Ev.tru (by simp; omega) p23

theorem nat_Parse_ev (s : ByteArray) (hs : s.size ≤ 1073741824) : Ev (fun k => nat_Parse.f k s 10) (pnR (bs s)) := by
  unfold nat_Parse.f nat_Parse.e
  have hl := bs_length s
  have p9 : Ev (fun k => nat_Parse.p9 k ()) (([] : List Int), (15 : Int)) := Ev.turn (fun k => nat_Parse.p9_succ k _) Ev.pure
  have p11 : Ev (fun k => nat_Parse.p11 k s 10) (if (bs s).all dgt then (lim (dval (bs s)), 0) else ([], 15)) := by
    refine Ev.turn (fun k => nat_Parse.p11_succ k _ _) ?_
    unfold nat_Parse.e11
    exact parse_p0 s hs s.size 0 [] (by omega) Lim.nil (by simp [V, dval]) (by simp) (by simp)
  have hnil : bs (ByteArray.mk #[]) = [] := rfl
  refine Ev.fls (by simp) (Ev.fls (by simp) ?_)
  rw [beq_bs, hnil]
  unfold pnR pn
  by_cases h0 : bs s = []
  · rw [if_pos (.inl h0)]
    exact Ev.tru (dec_t h0) p9
  refine Ev.fls (dec_f h0) ?_
  have hpos : 0 < s.size := by
    rw [← hl]
    exact Nat.pos_of_ne_zero fun h => h0 (List.length_eq_zero_iff.1 h)
  by_cases h1 : 1 < s.size
  · refine Ev.tru (by simp; omega) (Ev.tru (by simp; omega) ?_)
    rw [bs_btI0]
    by_cases h2 : nthD 0 (bs s) 0 = 48
    · rw [if_pos (.inr ⟨by omega, h2⟩)]
      exact Ev.tru (dec_t h2) p9
    · rw [if_neg (fun h => h.elim h0 fun h => h2 h.2)]
      refine Ev.fls (dec_f h2) ?_
      cases hx : (bs s).all dgt <;> rw [hx] at p11 <;> simpa using p11
  · refine Ev.fls (by simp; omega) ?_
    rw [if_neg (fun h => h.elim h0 fun h => h1 (by omega))]
    cases hx : (bs s).all dgt <;> rw [hx] at p11 <;> simpa using p11

/-! ### The reference's -/
end Go.FK


/- The plain law of the second Ratio seat: cutting texts; powers of ten. -/
namespace Go.FK

theorem bs_one (c : UInt8) : bs (ByteArray.mk #[c]) = [(c.toNat : Int)] := rfl

theorem index_spec (c : UInt8) : ∀ l : List UInt8, (Go.Lib.indexByte l c = -1 ∧ (c.toNat : Int) ∉ l.map (fun b => (b.toNat : Int))) ∨
    ∃ i : Nat, Go.Lib.indexByte l c = i ∧ i < l.length ∧ (l.map (fun b => (b.toNat : Int))).takeWhile (· != (c.toNat : Int)) = (l.map (fun b => (b.toNat : Int))).take i ∧ (l.map (fun b => (b.toNat : Int))).dropWhile (· != (c.toNat : Int)) = (c.toNat : Int) :: (l.map (fun b => (b.toNat : Int))).drop (i + 1)
  | [] => .inl ⟨rfl, by simp⟩
  | b :: l => by
    by_cases h : b = c
    · subst h
      exact .inr ⟨0, by simp [Go.Lib.indexByte], by simp, by simp, by simp⟩
    · have hn : ¬ ((b.toNat : Int) = c.toNat) := fun e => h (UInt8.toNat_inj.1 (by omega))
      have hb : (b == c) = false := by simpa using h
      have hb2 : ((b.toNat : Int) != (c.toNat : Int)) = true := by simpa using hn
      rcases index_spec c l with ⟨h1, h2⟩ | ⟨i, h1, h2, h3, h4⟩
      · refine .inl ⟨by simp [Go.Lib.indexByte, hb, h1], ?_⟩
        simp only [List.map_cons, List.mem_cons, not_or]
        exact ⟨fun e => hn e.symm, h2⟩
      · refine .inr ⟨i + 1, ?_, by simp; omega, ?_, ?_⟩
        · have h5 : (Go.Lib.indexByte l c == -1) = false := by rw [h1]; simp
          simp [Go.Lib.indexByte, hb, h1]
        · simp only [List.map_cons, List.takeWhile_cons, hb2, if_true, h3, List.take_succ_cons]
        · simp only [List.map_cons, List.dropWhile_cons, hb2, if_true, h4, List.drop_succ_cons]

def hasC (c : Int) (l : List Int) : Bool := decide (c ∈ l)
def befC (c : Int) (l : List Int) : List Int := l.takeWhile (· != c)
def aftC (c : Int) (l : List Int) : List Int := (l.dropWhile (· != c)).drop 1

/-- What Cut answers at a letter. -/
theorem cut_ev (s : ByteArray) (c : UInt8) (hs : s.size ≤ 1073741824) : ∃ x y, Ev (fun k => strings_Cut.f k s (ByteArray.mk #[c])) (x, y, hasC c.toNat (bs s)) ∧ (hasC c.toNat (bs s) = true → bs x = befC c.toNat (bs s) ∧ bs y = aftC c.toNat (bs s)) ∧ (hasC c.toNat (bs s) = false → x = s ∧ y = ByteArray.mk #[]) := by
  have hl := bs_length s
  have hsz : (ByteArray.mk #[c]).size = 1 := rfl
  have hb0 : btI (ByteArray.mk #[c]) (0 : Int) = c.toNat := by rw [bs_btI0, bs_one]; rfl
  have hc : c.toNat.toUInt8 = c := by simp
  have hcut : ∀ (i : Nat), i < s.size → Ev (fun k => stringslite_Index.f k s (ByteArray.mk #[c])) (i : Int) → Ev (fun k => strings_Cut.f k s (ByteArray.mk #[c])) (s.extract 0 i, s.extract (i + 1) s.size, true) := by
    intro i hi h
    unfold strings_Cut.f strings_Cut.e
    refine Ev.bind (?_ : Ev (fun k => stringslite_Cut.f k s (ByteArray.mk #[c])) (s.extract 0 i, s.extract (i + 1) s.size, true)) Ev.pure
    unfold stringslite_Cut.f stringslite_Cut.e
    refine Ev.bind h ?_
    have e : IntKind.i64.wrap ((i : Int) + ((ByteArray.mk #[c]).size : Int)) = ((i + 1 : Nat) : Int) := by rw [hsz, wrap_i64 (by omega) (by omega)]; omega
    rw [e]
    refine Ev.tru (by simp) (Ev.tru (by simp; omega) (Ev.tru (by simp; omega) (Ev.eq ?_)))
    simp
  have hno : Ev (fun k => stringslite_Index.f k s (ByteArray.mk #[c])) (-1 : Int) → Ev (fun k => strings_Cut.f k s (ByteArray.mk #[c])) (s, ByteArray.mk #[], false) := by
    intro h
    unfold strings_Cut.f strings_Cut.e
    refine Ev.bind (?_ : Ev (fun k => stringslite_Cut.f k s (ByteArray.mk #[c])) (s, ByteArray.mk #[], false)) Ev.pure
    unfold stringslite_Cut.f stringslite_Cut.e
    exact Ev.bind h (Ev.fls (by simp) Ev.pure)
  have hidx : Ev (fun k => stringslite_Index.f k s (ByteArray.mk #[c])) (Go.Lib.indexByte s.data.toList c) := by
    unfold stringslite_Index.f stringslite_Index.e
    refine Ev.fls (by rw [hsz]; simp) ?_
    rw [beq_bs, bs_one]
    by_cases h : [(c.toNat : Int)] = bs s
    · refine Ev.tru (dec_t h) ?_
      have hs1 : s = ByteArray.mk #[c] := bs_inj (by rw [← h, bs_one])
      subst hs1
      have e : Go.Lib.indexByte (ByteArray.mk #[c]).data.toList c = 0 := by simp [Go.Lib.indexByte]
      rw [e]
      exact Ev.turn (fun k => stringslite_Index.p7_succ k _) Ev.pure
    · refine Ev.fls (dec_f h) (Ev.tru (by rw [hsz]; simp) (Ev.tru (by rw [hsz]; simp) ?_))
      refine Ev.bind (?_ : Ev (fun k => stringslite_IndexByte.f k s (btI (ByteArray.mk #[c]) 0)) (Go.Lib.indexByte s.data.toList c)) Ev.pure
      unfold stringslite_IndexByte.f stringslite_IndexByte.e
      refine Ev.bind (?_ : Ev (fun k => bytealg_IndexByteString.f k s (btI (ByteArray.mk #[c]) 0)) (Go.Lib.indexByte s.data.toList c)) Ev.pure
      unfold bytealg_IndexByteString.f
      refine Ev.eq ?_
      rw [hb0, Int.toNat_natCast, hc]
  rcases index_spec c s.data.toList with ⟨h1, h2⟩ | ⟨i, h1, h2, h3, h4⟩
  · have hf : hasC c.toNat (bs s) = false := dec_f h2
    rw [h1] at hidx
    rw [hf]
    exact ⟨_, _, hno hidx, (fun h => by cases h), fun _ => ⟨rfl, rfl⟩⟩
  · have hi : i < s.size := by have : s.data.toList.length = s.size := by rw [Array.length_toList]; rfl
                               omega
    have ht : hasC c.toNat (bs s) = true := by
      apply dec_t
      have : (c.toNat : Int) ∈ (bs s).dropWhile (· != (c.toNat : Int)) := by
        unfold bs; rw [h4]; simp
      exact (List.dropWhile_suffix _).subset this
    rw [h1] at hidx
    rw [ht]
    refine ⟨_, _, hcut i hi hidx, (fun _ => ⟨?_, ?_⟩), (fun h => by cases h)⟩
    · rw [bs_extract, List.drop_zero]
      exact h3.symm
    · rw [bs_extract, ← hl, List.take_length]
      unfold aftC
      have h4' : (bs s).dropWhile (· != (c.toNat : Int)) = (c.toNat : Int) :: (bs s).drop (i + 1) := h4
      rw [h4']
      rfl

/-- The sign ahead. -/
theorem prefix_ev (s : ByteArray) (c : UInt8) : Ev (fun k => strings_CutPrefix.f k s (ByteArray.mk #[c])) (if nthD 0 (bs s) 0 = c.toNat ∧ 0 < s.size then (s.extract 1 s.size, true) else (s, false)) := by
  have hl := bs_length s
  have hsz : (ByteArray.mk #[c]).size = 1 := rfl
  have hp : Ev (fun k => stringslite_HasPrefix.f k s (ByteArray.mk #[c])) (decide (nthD 0 (bs s) 0 = c.toNat ∧ 0 < s.size)) := by
    unfold stringslite_HasPrefix.f stringslite_HasPrefix.e
    by_cases h : 0 < s.size
    · refine Ev.tru (by rw [hsz]; simp; omega) (Ev.tru (by rw [hsz]; simp; omega) (Ev.eq ?_))
      rw [beq_bs, bs_extract, bs_one, hsz]
      apply decide_eq_decide.2
      have : (bs s).take 1 = [nthD 0 (bs s) 0] := by
        have := take_succ_get (a := bs s) (n := 0) (by omega)
        simpa using this
      simp [this, h]
    · refine Ev.fls (by rw [hsz]; simp; omega) (Ev.eq ?_)
      simp [h]
  unfold strings_CutPrefix.f strings_CutPrefix.e
  refine Ev.bind (?_ : Ev (fun k => stringslite_CutPrefix.f k s (ByteArray.mk #[c])) (if nthD 0 (bs s) 0 = c.toNat ∧ 0 < s.size then (s.extract 1 s.size, true) else (s, false))) Ev.pure
  unfold stringslite_CutPrefix.f stringslite_CutPrefix.e
  refine Ev.bind hp ?_
  by_cases h : nthD 0 (bs s) 0 = c.toNat ∧ 0 < s.size
  · rw [if_pos h, dec_t h, hsz]
    exact Ev.fls rfl (Ev.tru (by simp; omega) (Ev.eq (by simp)))
  · rw [if_neg h, dec_f h]
    exact Ev.tru rfl Ev.pure

/-- Zeros ahead taken off. -/
theorem trim_byte (c : UInt8) : ∀ (n : Nat) (s : ByteArray), s.size = n → ∃ t, Ev (fun k => strings_trimLeftByte.p0 k s c.toNat) t ∧ bs t = (bs s).dropWhile (· == (c.toNat : Int)) := by
  intro n
  induction n with
  | zero =>
    intro s hs
    refine ⟨s, Ev.turn (fun k => strings_trimLeftByte.p0_succ k _ _) ?_, ?_⟩
    · unfold strings_trimLeftByte.e0
      exact Ev.fls (dec_f (by omega)) (Ev.turn (fun k => strings_trimLeftByte.p7_succ k _) Ev.pure)
    · have : bs s = [] := List.length_eq_zero_iff.1 (by rw [bs_length]; exact hs)
      rw [this]; rfl
  | succ n ih =>
    intro s hs
    have hl := bs_length s
    have hcons : bs s = nthD 0 (bs s) 0 :: (bs s).drop 1 := by
      have h1 := List.drop_eq_getElem_cons (l := bs s) (i := 0) (by omega)
      rw [List.drop_zero] at h1
      rw [nthD_eq, List.getD_eq_getElem?_getD, List.getElem?_eq_getElem (by omega)]
      exact h1
    by_cases h : nthD 0 (bs s) 0 = c.toNat
    · have hsz : (s.extract 1 s.size).size = n := by rw [ByteArray.size_extract]; omega
      obtain ⟨t, h1, h2⟩ := ih (s.extract 1 s.size) hsz
      refine ⟨t, Ev.turn (fun k => strings_trimLeftByte.p0_succ k _ _) ?_, ?_⟩
      · unfold strings_trimLeftByte.e0
        rw [bs_btI0]
        exact Ev.tru (dec_t (by omega)) (Ev.tru (dec_t (by omega)) (Ev.tru (dec_t h) (Ev.tru (by simp; omega) h1)))
      · rw [h2, bs_extract, ← hl, List.take_length]
        conv => rhs; rw [hcons]
        rw [List.dropWhile_cons, if_pos (by simpa using h)]
    · refine ⟨s, Ev.turn (fun k => strings_trimLeftByte.p0_succ k _ _) ?_, ?_⟩
      · unfold strings_trimLeftByte.e0
        rw [bs_btI0]
        exact Ev.tru (dec_t (by omega)) (Ev.tru (dec_t (by omega)) (Ev.fls (dec_f h) (Ev.turn (fun k => strings_trimLeftByte.p7_succ k _) Ev.pure)))
      · conv => rhs; rw [hcons]
        rw [List.dropWhile_cons, if_neg (by simpa using h)]
        exact hcons

theorem trim_zero (s : ByteArray) : ∃ t, Ev (fun k => strings_TrimLeft.f k s (ByteArray.mk #[48])) t ∧ bs t = (bs s).dropWhile (· == 48) := by
  have hnil : bs (ByteArray.mk #[]) = [] := rfl
  have h48 : bs (ByteArray.mk #[48]) = [48] := rfl
  have hb0 : btI (ByteArray.mk #[48]) (0 : Int) = 48 := by decide
  have hsz : (ByteArray.mk #[48]).size = 1 := rfl
  by_cases h : bs s = []
  · refine ⟨s, ?_, by rw [h]; rfl⟩
    unfold strings_TrimLeft.f strings_TrimLeft.e
    rw [beq_bs, hnil]
    exact Ev.tru (dec_t h) (Ev.turn (fun k => strings_TrimLeft.p5_succ k _) Ev.pure)
  · obtain ⟨t, h1, h2⟩ := trim_byte 48 s.size s rfl
    refine ⟨t, ?_, h2⟩
    unfold strings_TrimLeft.f strings_TrimLeft.e
    rw [beq_bs, beq_bs, hnil, h48, hb0, hsz]
    refine Ev.fls (dec_f h) (Ev.fls (by simp) (Ev.tru (by simp) (Ev.tru (by simp) (Ev.tru (by simp) (Ev.tru (by simp) ?_)))))
    refine Ev.bind (?_ : Ev (fun k => strings_trimLeftByte.f k s 48) t) Ev.pure
    unfold strings_trimLeftByte.f strings_trimLeftByte.e
    exact h1

/-! ### Powers of ten -/
theorem pow_p0 (M : Nat) (hM : M ≤ 17592186044415) (R : Nat) (hR : L R ≤ M) : ∀ (N n : Nat) (acc base : Nat), n ≤ N → n ≤ 4096 → 0 < acc → 0 < base → acc * base ^ n = R → L base ≤ M → L acc ≤ M →
    Ev (fun k => nat_Pow.p0 k (n : Int) (lim acc) (lim base)) (lim R, (0 : Int)) := by
  intro N
  induction N with
  | zero =>
    intro n acc base hn _ _ _ hr _ _
    obtain rfl : n = 0 := by omega
    refine Ev.turn (fun k => nat_Pow.p0_succ k _ _ _) ?_
    unfold nat_Pow.e0
    rw [Nat.pow_zero, Nat.mul_one] at hr
    subst hr
    exact Ev.fls (by simp) Ev.pure
  | succ N ih =>
    intro n acc base hn h4 ha hb hr hLb hLa
    refine Ev.turn (fun k => nat_Pow.p0_succ k _ _ _) ?_
    unfold nat_Pow.e0
    by_cases h0 : n = 0
    · subst h0
      rw [Nat.pow_zero, Nat.mul_one] at hr
      subst hr
      exact Ev.fls (by simp) Ev.pure
    have hna : Nt M (lim acc) acc := Nt.of hLa
    have hnb : Nt M (lim base) base := Nt.of hLb
    have htm : Int.tmod (n : Int) 2 = ((n % 2 : Nat) : Int) := by rw [Int.tmod_eq_emod_of_nonneg (by omega)]; omega
    have htd : Int.tdiv (n : Int) 2 = ((n / 2 : Nat) : Int) := by rw [Int.tdiv_eq_ediv_of_nonneg (by omega)]; omega
    have hmod : n = 2 * (n / 2) + n % 2 := by omega
    -- the step behind the factor
    have hnext : ∀ acc' : Nat, 0 < acc' → acc' * (base * base) ^ (n / 2) = R → L acc' ≤ M → Ev (fun k => nat_Pow.p19 k (n : Int) (lim acc') (lim base)) (lim R, (0 : Int)) := by
      intro acc' ha' hr' hL'
      refine Ev.turn (fun k => nat_Pow.p19_succ k _ _ _) ?_
      unfold nat_Pow.e19
      have h13 : ∀ b' : Nat, 0 < b' → acc' * b' ^ (n / 2) = R → L b' ≤ M → Ev (fun k => nat_Pow.p13 k (n : Int) (lim acc') (lim b')) (lim R, (0 : Int)) := by
        intro b' hb' hr'' hLb'
        refine Ev.turn (fun k => nat_Pow.p13_succ k _ _ _) ?_
        unfold nat_Pow.e13
        rw [htd, wrap_i64 (by omega) (by omega)]
        exact ih (n / 2) acc' b' (by omega) (by omega) ha' hb' hr'' hLb' hL'
      by_cases h1 : 1 < n
      · have hLbb : L (base * base) ≤ M := by
          refine Nat.le_trans (L_mono ?_) hR
          rw [← hr']
          have : (base * base) ^ 1 ≤ (base * base) ^ (n / 2) := Nat.pow_le_pow_right (Nat.mul_pos hb hb) (by omega)
          rw [Nat.pow_one] at this
          exact Nat.le_trans this (Nat.le_mul_of_pos_left _ ha')
        exact Ev.tru (by simp; omega) (Ev.bind (hnb.mul hnb (by omega)) (h13 _ (Nat.mul_pos hb hb) hr' hLbb))
      · have : n / 2 = 0 := by omega
        rw [this, Nat.pow_zero] at hr'
        exact Ev.fls (by simp; omega) (h13 base hb (by rw [this, Nat.pow_zero]; exact hr') hLb)
    rw [htm]
    have hsq : (base * base) ^ (n / 2) = base ^ (2 * (n / 2)) := by rw [Nat.pow_mul, Nat.pow_two]
    refine Ev.tru (by simp; omega) ?_
    by_cases h2 : n % 2 = 1
    · have hr' : acc * base * (base * base) ^ (n / 2) = R := by
        rw [← hr, hsq, Nat.mul_assoc, ← Nat.pow_succ', show (2 * (n / 2)).succ = n by omega]
      have hLab : L (acc * base) ≤ M := by
        refine Nat.le_trans (L_mono ?_) hR
        rw [← hr']
        exact Nat.le_mul_of_pos_right _ (Nat.pow_pos (Nat.mul_pos hb hb))
      exact Ev.tru (by rw [h2]; rfl) (Ev.bind (hna.mul hnb (by omega)) (hnext _ (Nat.mul_pos ha hb) hr' hLab))
    · have : n % 2 = 0 := by omega
      refine Ev.fls (by rw [this]; rfl) (hnext acc ha ?_ hLa)
      rw [hsq, show 2 * (n / 2) = n by omega]
      exact hr

theorem L_ten (n : Nat) : L (10 ^ n) ≤ n + 1 := by
  apply L_le
  rw [Nat.pow_succ]
  have : 10 ^ n ≤ 4294967296 ^ n := Nat.pow_le_pow_left (by omega) n
  have h2 : 0 < 4294967296 ^ n := Nat.pow_pos (by omega)
  omega

theorem pow_ev {n : Nat} (hn : n ≤ 4096) : Ev (fun k => nat_Pow.f k [10] (n : Int)) (lim (10 ^ n), (0 : Int)) := by
  unfold nat_Pow.f nat_Pow.e
  have h10 : Nt 1 [10] 10 := Nt.one (by simp [B])
  have e1 : ([1] : List Int) = lim 1 := lim_one.symm
  refine Ev.fls (by simp) (Ev.fls (by simp; omega) (Ev.bind (h10.own (by omega)) ?_))
  rw [e1]
  have h1 := L_ten n
  exact pow_p0 5000 (by omega) (10 ^ n) (by omega) n n 1 10 (Nat.le_refl _) hn (by omega) (by omega) (by rw [Nat.one_mul]) (by have := L_small (n := 10) (by omega); omega) (by rw [L_one]; omega)

theorem ten_p0 : ∀ (N n m : Nat), n ≤ N → n + m ≤ 1073741824 → Ev (fun k => ratio_ten.p0 k (n : Int) (lim (10 ^ m))) (lim (10 ^ (n + m))) := by
  intro N
  induction N with
  | zero =>
    intro n m hn _
    obtain rfl : n = 0 := by omega
    refine Ev.turn (fun k => ratio_ten.p0_succ k _ _) ?_
    unfold ratio_ten.e0
    rw [Nat.zero_add]
    exact Ev.fls (by simp) Ev.pure
  | succ N ih =>
    intro n m hn hnm
    by_cases h0 : n = 0
    · subst h0; exact ih 0 m (by omega) hnm
    refine Ev.turn (fun k => ratio_ten.p0_succ k _ _) ?_
    unfold ratio_ten.e0
    have hs : (bif decide ((4096 : Int) < (n : Int)) then (4096 : Int) else (n : Int)) = ((min 4096 n : Nat) : Int) := by
      by_cases h : 4096 < n
      · rw [dec_t (by omega)]; simp; omega
      · rw [dec_f (by omega)]; simp; omega
    rw [hs]
    have l1 := L_ten m
    have l2 := L_ten (min 4096 n)
    have n1 : Nt (n + m + 2) (lim (10 ^ m)) (10 ^ m) := Nt.of (by omega)
    have n2 : Nt (n + m + 2) (lim (10 ^ (min 4096 n))) (10 ^ (min 4096 n)) := Nt.of (by omega)
    refine Ev.tru (by simp; omega) (Ev.bind (pow_ev (by omega)) (Ev.bind (n1.mul n2 (by omega)) ?_))
    have e : IntKind.i64.wrap ((n : Int) - ((min 4096 n : Nat) : Int)) = ((n - min 4096 n : Nat) : Int) := by rw [wrap_i64 (by omega) (by omega)]; omega
    rw [e, ← Nat.pow_add]
    have := ih (n - min 4096 n) (m + min 4096 n) (by omega) (by omega)
    rwa [show n - min 4096 n + (m + min 4096 n) = n + m by omega] at this

theorem ten_ev {n : Nat} (hn : n ≤ 1073741824) : Ev (fun k => ratio_ten.f k (n : Int)) (lim (10 ^ n)) := by
  unfold ratio_ten.f ratio_ten.e
  have e1 : ([1] : List Int) = lim (10 ^ 0) := lim_one.symm
  rw [e1]
  exact ten_p0 n n 0 (Nat.le_refl _) (by omega)

end Go.FK


/- The plain law of the second Ratio seat: Reads. -/
namespace Go.FK

def sg (neg : Bool) (n : Nat) : Int := if neg then -(n : Int) else n
theorem sg_zt {M n : Nat} (neg : Bool) (h : L n ≤ M) : Zt M (neg, lim n) (sg neg n) := ⟨Lim_lim n, by cases neg <;> simp [Zv, sg, V_lim], h⟩
def pR : Option Rat → RR × Int
  | some q => (rat q, 0)
  | none => (noRat, 31)

/-- What the program reads. -/
def tz (f : List Int) : List Int := if f.dropWhile (· == 48) = [] then [48] else f.dropWhile (· == 48)
def frac (l : List Int) : List Int := if hasC 46 l = true then aftC 46 l else []
def pspec (neg : Bool) (l : List Int) : Option Rat :=
  if hasC 47 l = true then
    (match pn (befC 47 l), pn (aftC 47 l) with
    | some n, some d => if d = 0 then none else some (mkRat (sg neg n) d)
    | _, _ => none)
  else match pn (befC 46 l) with
    | none => none
    | some n => if hasC 46 l = true ∧ frac l = [] then none else match pn (tz (frac l)) with
      | none => none
      | some m => some (mkRat (sg neg (n * 10 ^ (frac l).length + m)) (10 ^ (frac l).length))
/-- What the reference reads. -/
def rspec (neg : Bool) (l : List Int) : Option Rat :=
  match pn (l.takeWhile dgt) with
  | none => none
  | some n => match l.dropWhile dgt with
    | [] => some (mkRat (sg neg n) 1)
    | c :: f => if c = 47 then (match pn f with
        | some d => if d = 0 then none else some (mkRat (sg neg n) d)
        | none => none)
      else if ¬ c = 46 then none else if f = [] then none else if f.all dgt = true then some (mkRat (sg neg (n * 10 ^ f.length + dval f)) (10 ^ f.length)) else none

theorem pn_some {l : List Int} {n : Nat} (h : pn l = some n) : l.all dgt = true ∧ n = dval l ∧ l ≠ [] ∧ L n ≤ l.length := by
  unfold pn at h
  split at h
  · cases h
  · rename_i h1
    split at h
    · rename_i h2
      simp only [Option.some.injEq] at h
      exact ⟨h2, h.symm, fun e => h1 (.inl e), by rw [← h]; exact L_dval h2⟩
    · cases h

theorem takeWhile_all {p : Int → Bool} : ∀ {l : List Int}, l.all p = true → l.takeWhile p = l ∧ l.dropWhile p = []
  | [], _ => ⟨rfl, rfl⟩
  | x :: xs, h => by
    simp only [List.all_cons, Bool.and_eq_true] at h
    obtain ⟨h1, h2⟩ := takeWhile_all h.2
    simp [h.1, h1, h2]
theorem takeWhile_append {p : Int → Bool} {c : Int} {m : List Int} (hc : p c = false) : ∀ {l : List Int}, l.all p = true → (l ++ c :: m).takeWhile p = l ∧ (l ++ c :: m).dropWhile p = c :: m
  | [], _ => by simp [hc]
  | x :: xs, h => by
    simp only [List.all_cons, Bool.and_eq_true] at h
    obtain ⟨h1, h2⟩ := takeWhile_append (m := m) hc h.2
    simp [h.1, h1, h2]

theorem split_has {c : Int} : ∀ {l : List Int}, c ∈ l → l = befC c l ++ c :: aftC c l
  | x :: xs, h => by
    by_cases e : x = c
    · subst e; simp [befC, aftC]
    · have h' : c ∈ xs := by
        rcases List.mem_cons.1 h with h | h
        · exact absurd h.symm e
        · exact h
      have := split_has h'
      simp only [befC, aftC, List.takeWhile_cons, List.dropWhile_cons] at this ⊢
      have hb : (x != c) = true := by simpa using e
      simp only [hb, if_true, List.cons_append]
      exact congrArg (x :: ·) this
theorem split_not {c : Int} {l : List Int} (h : c ∉ l) : befC c l = l := by
  unfold befC
  refine (takeWhile_all ?_).1
  rw [List.all_eq_true]
  intro x hx
  have : x ≠ c := fun e => h (e ▸ hx)
  simpa using this
theorem bef_not (c : Int) : ∀ (l : List Int), c ∉ befC c l
  | [] => by simp [befC]
  | x :: xs => by
    unfold befC
    rw [List.takeWhile_cons]
    by_cases e : x = c
    · subst e; simp
    · have hb : (x != c) = true := by simpa using e
      rw [if_pos hb]
      simp only [List.mem_cons, not_or]
      exact ⟨fun h => e h.symm, bef_not c xs⟩

/-- The first that is no digit. -/
theorem first_bad : ∀ (l : List Int), l.all dgt = false → ∃ c f, l.dropWhile dgt = c :: f ∧ dgt c = false ∧ c ∈ l
  | [], h => by simp at h
  | x :: xs, h => by
    by_cases e : dgt x = true
    · simp only [List.all_cons, e, Bool.true_and] at h
      obtain ⟨c, f, h1, h2, h3⟩ := first_bad xs h
      exact ⟨c, f, by simp [e, h1], h2, by simp [h3]⟩
    · have e : dgt x = false := by simpa using e
      exact ⟨x, xs, by simp [e], e, by simp⟩

/-- A digit-prefix of a text that starts with a bad piece. -/
theorem bad_append : ∀ (a m : List Int), a.all dgt = false → ∃ c f, (a ++ m).takeWhile dgt = a.takeWhile dgt ∧ (a ++ m).dropWhile dgt = c :: (f ++ m) ∧ dgt c = false ∧ c ∈ a
  | [], m, h => by simp at h
  | x :: xs, m, h => by
    by_cases e : dgt x = true
    · simp only [List.all_cons, e, Bool.true_and] at h
      obtain ⟨c, f, h0, h1, h2, h3⟩ := bad_append xs m h
      exact ⟨c, f, by simp [e, h0], by simp [e, h1], h2, by simp [h3]⟩
    · have e : dgt x = false := by simpa using e
      exact ⟨x, xs, by simp [e], by simp [e], e, by simp⟩

theorem all_drop48 : ∀ (f : List Int), (f.dropWhile (· == 48)).all dgt = f.all dgt ∧ (f.all dgt = true → dval (f.dropWhile (· == 48)) = dval f)
  | [] => ⟨rfl, fun _ => rfl⟩
  | x :: xs => by
    by_cases e : x = 48
    · subst e
      obtain ⟨h1, h2⟩ := all_drop48 xs
      have hd : dgt 48 = true := by decide
      refine ⟨by simp [h1, hd], fun h => ?_⟩
      simp only [List.all_cons, hd, Bool.true_and] at h
      simp only [List.dropWhile_cons, beq_self_eq_true, if_true, h2 h]
      simp [dval]
    · have : (x == 48) = false := by simpa using e
      simp [this]
theorem drop48_head : ∀ (f : List Int), nthD 0 (f.dropWhile (· == 48)) 0 ≠ 48
  | [] => by simp [nthD]
  | x :: xs => by
    by_cases e : x = 48
    · subst e; simpa [List.dropWhile_cons] using drop48_head xs
    · have : (x == 48) = false := by simpa using e
      simpa [List.dropWhile_cons, this, nthD] using e

theorem pn_tz (f : List Int) : pn (tz f) = if f.all dgt = true then some (dval f) else none := by
  obtain ⟨h1, h2⟩ := all_drop48 f
  have h3 := drop48_head f
  unfold tz
  by_cases h : f.dropWhile (· == 48) = []
  · rw [if_pos h]
    rw [h] at h1 h2
    rw [← h1]
    have := h2 h1.symm
    simp only [List.all_nil, if_true]
    rw [← this]
    decide
  · rw [if_neg h]
    unfold pn
    rw [if_neg (fun h' => h'.elim h fun h' => h3 h'.2), h1]
    cases hx : f.all dgt
    · rfl
    · simp only [if_true, h2 hx]

theorem d47 : dgt 47 = false := by decide
theorem d46 : dgt 46 = false := by decide

theorem specs (neg : Bool) (l : List Int) : pspec neg l = rspec neg l := by
  unfold pspec
  by_cases hs : hasC 47 l = true
  · rw [if_pos hs]
    have hm : (47 : Int) ∈ l := of_decide_eq_true hs
    have hl := split_has hm
    have hbn := bef_not 47 l
    generalize befC 47 l = a at *
    generalize aftC 47 l = f at *
    subst hl
    cases hx : a.all dgt
    · -- something bad ahead of the stroke
      have hpn : pn a = none := by unfold pn; split <;> simp [hx]
      rw [hpn]
      obtain ⟨c, g, h1, h2, h3, h4⟩ := bad_append a (47 :: f) hx
      have hc : ¬ c = 47 := fun e => hbn (e ▸ h4)
      unfold rspec
      rw [h1, h2]
      cases pn (a.takeWhile dgt) with
      | none => rfl
      | some n =>
        simp only [if_neg hc]
        by_cases h46 : c = 46
        · subst h46
          have : (g ++ 47 :: f).all dgt = false := by simp [d47]
          simp [this]
        · simp [h46]
    · obtain ⟨h1, h2⟩ := takeWhile_append (m := f) d47 hx
      unfold rspec
      rw [h1, h2]
      cases pn a with
      | none => rfl
      | some n =>
        simp only [if_true]
        cases pn f <;> rfl
  · rw [if_neg hs]
    have hm : (47 : Int) ∉ l := fun h => hs (decide_eq_true h)
    by_cases hp : hasC 46 l = true
    · have hm6 : (46 : Int) ∈ l := of_decide_eq_true hp
      have hl := split_has hm6
      have hbn := bef_not 46 l
      have hf : frac l = aftC 46 l := by unfold frac; rw [if_pos hp]
      rw [hf]
      simp only [hp, true_and]
      generalize befC 46 l = a at *
      generalize aftC 46 l = f at *
      subst hl
      cases hx : a.all dgt
      · have hpn : pn a = none := by unfold pn; split <;> simp [hx]
        rw [hpn]
        obtain ⟨c, g, h1, h2, h3, h4⟩ := bad_append a (46 :: f) hx
        have hc : ¬ c = 46 := fun e => hbn (e ▸ h4)
        have hc7 : ¬ c = 47 := fun e => hm (by rw [← e]; simp [h4])
        unfold rspec
        rw [h1, h2]
        cases pn (a.takeWhile dgt) with
        | none => rfl
        | some n => simp [hc7, hc]
      · obtain ⟨h1, h2⟩ := takeWhile_append (m := f) d46 hx
        unfold rspec
        rw [h1, h2]
        cases pn a with
        | none => rfl
        | some n =>
          have e1 : ¬ (46 : Int) = 47 := by decide
          simp only [if_neg e1, not_true, if_false, pn_tz]
          by_cases hfe : f = []
          · simp [hfe]
          · simp only [if_neg hfe]
            cases hfa : f.all dgt <;> simp
    · have hm6 : (46 : Int) ∉ l := fun h => hp (decide_eq_true h)
      have hf : frac l = [] := by unfold frac; rw [if_neg hp]
      rw [hf, split_not hm6]
      have e2 : ¬ (hasC 46 l = true ∧ ([] : List Int) = []) := fun h => hp h.1
      simp only [pn_tz]
      cases hx : l.all dgt
      · have hpn : pn l = none := by unfold pn; split <;> simp [hx]
        rw [hpn]
        obtain ⟨c, g, h2, h3, h4⟩ := first_bad l hx
        unfold rspec
        rw [h2]
        have hc7 : ¬ c = 47 := fun e => hm (e ▸ h4)
        have hc6 : ¬ c = 46 := fun e => hm6 (e ▸ h4)
        cases pn (l.takeWhile dgt) with
        | none => rfl
        | some n => simp [hc7, hc6]
      · obtain ⟨h1, h2⟩ := takeWhile_all hx
        unfold rspec
        rw [h1, h2]
        cases pn l with
        | none => rfl
        | some n => simp [dval, hp]

end Go.FK


/- The plain law of the second Ratio seat: Reads, the walks. -/
namespace Go.FK

theorem pnR_some {l : List Int} {n : Nat} (h : pn l = some n) : pnR l = (lim n, 0) := by unfold pnR; rw [h]
theorem pnR_none {l : List Int} (h : pn l = none) : pnR l = ([], 15) := by unfold pnR; rw [h]

theorem bef_length (c : Int) (l : List Int) : (befC c l).length ≤ l.length := (List.takeWhile_prefix _).length_le
theorem aft_length (c : Int) (l : List Int) : (aftC c l).length ≤ l.length := by
  unfold aftC
  rw [List.length_drop]
  have := (List.dropWhile_suffix (l := l) (· != c)).length_le
  omega

theorem made_sg {M n d : Nat} (neg : Bool) (hn : L n ≤ M) (hd : L d ≤ M) (h0 : d ≠ 0) (hM : M ≤ 17592186044415) : Ev (fun k => ratio_made.f k (neg, lim n) (lim d)) (rat (mkRat (sg neg n) d)) :=
  made_ev (sg_zt neg hn) (Nt.of hd) h0 hM
theorem lim_len_zero (d : Nat) : decide (((lim d).length : Int) = 0) = decide (d = 0) := by
  apply decide_eq_decide.2
  constructor
  · intro h
    exact L_eq_zero (show L d = 0 by unfold L; omega)
  · intro h; subst h; simp [lim_zero]

/-! ### The program -/
theorem parse_rest {fr : ByteArray} {neg : Bool} {n : Nat} {N : Nat} (hN : N ≤ 16777216) (hfr : fr.size ≤ N) (hn : L n ≤ N) :
    Ev (fun k => ratio_Parse.p27 k noRat neg fr (lim n)) (pR (match pn (tz (bs fr)) with
      | none => none
      | some m => some (mkRat (sg neg (n * 10 ^ (bs fr).length + m)) (10 ^ (bs fr).length)))) := by
  have hl := bs_length fr
  refine Ev.turn (fun k => ratio_Parse.p27_succ k _ _ _ _) ?_
  unfold ratio_Parse.e27
  obtain ⟨t, h1, h2⟩ := trim_zero fr
  have hnil : bs (ByteArray.mk #[]) = [] := rfl
  have h48 : bs (ByteArray.mk #[48]) = [48] := rfl
  have htl : t.size ≤ fr.size := by
    rw [← bs_length, ← bs_length, h2]
    exact (List.dropWhile_suffix _).length_le
  have h33 : ∀ u : ByteArray, bs u = tz (bs fr) → u.size ≤ N + 1 → Ev (fun k => ratio_Parse.p33 k noRat neg fr (lim n) u) (pR (match pn (tz (bs fr)) with
      | none => none
      | some m => some (mkRat (sg neg (n * 10 ^ (bs fr).length + m)) (10 ^ (bs fr).length)))) := by
    intro u hu hus
    refine Ev.turn (fun k => ratio_Parse.p33_succ k _ _ _ _ _) ?_
    unfold ratio_Parse.e33
    have hp := nat_Parse_ev u (by omega)
    rw [hu] at hp
    refine Ev.bind hp ?_
    cases hc : pn (tz (bs fr)) with
    | none => rw [pnR_none hc]; exact Ev.tru rfl Ev.pure
    | some m =>
      obtain ⟨_, _, _, hLm⟩ := pn_some hc
      rw [← hu, bs_length] at hLm
      rw [pnR_some hc]
      have l10 := L_ten fr.size
      have n10 : Nt (2 * N + 3) (lim (10 ^ fr.size)) (10 ^ fr.size) := Nt.of (by omega)
      have nn : Nt (2 * N + 3) (lim n) n := Nt.of (by omega)
      have lmul := L_mul n (10 ^ fr.size)
      have np : Nt (2 * N + 3) (lim (n * 10 ^ fr.size)) (n * 10 ^ fr.size) := Nt.of (by omega)
      have nm : Nt (2 * N + 3) (lim m) m := Nt.of (by omega)
      have ladd := L_add (n * 10 ^ fr.size) m
      refine Ev.fls rfl (Ev.bind (ten_ev (n := fr.size) (by omega)) (Ev.bind (nn.mul n10 (by omega)) (Ev.bind (np.add nm (by omega)) ?_)))
      have h10 : (10 : Nat) ^ fr.size ≠ 0 := Nat.ne_of_gt (Nat.pow_pos (by omega))
      rw [hl]
      exact Ev.bind (made_sg (M := 3 * N + 10) neg (by omega) (by omega) h10 (by omega)) Ev.pure
  refine Ev.bind h1 ?_
  rw [beq_bs, hnil, h2]
  unfold tz at h33
  by_cases h : (bs fr).dropWhile (· == 48) = []
  · refine Ev.tru (dec_t h) ?_
    exact h33 _ (by rw [if_pos h, h48]) (by show 1 ≤ _; omega)
  · refine Ev.fls (dec_f h) ?_
    exact h33 _ (by rw [if_neg h, h2]) (by omega)

def sgn0 (l : List Int) : Bool := decide (nthD 0 l 0 = 45 ∧ 0 < l.length)
def body (l : List Int) : List Int := if sgn0 l = true then l.drop 1 else l

theorem ratio_Parse_ev (s : ByteArray) {N : Nat} (hN : N ≤ 16777216) (hs : s.size ≤ N) : Ev (fun k => ratio_Parse.f k s) (pR (pspec (sgn0 (bs s)) (body (bs s)))) := by
  have hl := bs_length s
  obtain ⟨s', hp, hb, hs'⟩ : ∃ s', Ev (fun k => strings_CutPrefix.f k s (ByteArray.mk #[45])) (s', sgn0 (bs s)) ∧ bs s' = body (bs s) ∧ s'.size ≤ N := by
    have h := prefix_ev s 45
    unfold body sgn0
    by_cases c : nthD 0 (bs s) 0 = ((45 : UInt8).toNat : Int) ∧ 0 < s.size
    · rw [if_pos c] at h
      have c' : nthD 0 (bs s) 0 = 45 ∧ 0 < (bs s).length := ⟨c.1, by omega⟩
      rw [dec_t c', if_pos rfl]
      exact ⟨_, h, by rw [bs_extract, ← hl, List.take_length], by rw [ByteArray.size_extract]; omega⟩
    · rw [if_neg c] at h
      have c' : ¬ (nthD 0 (bs s) 0 = 45 ∧ 0 < (bs s).length) := fun h => c ⟨h.1, by omega⟩
      rw [dec_f c', if_neg (by simp)]
      exact ⟨_, h, rfl, hs⟩
  rw [← hb]
  generalize sgn0 (bs s) = neg at *
  have hl' := bs_length s'
  have p15 : Ev (fun k => ratio_Parse.p15 k noRat) (pR none) := Ev.turn (fun k => ratio_Parse.p15_succ k _) Ev.pure
  have p25 : Ev (fun k => ratio_Parse.p25 k noRat) (pR none) := Ev.turn (fun k => ratio_Parse.p25_succ k _) Ev.pure
  unfold ratio_Parse.f ratio_Parse.e
  obtain ⟨x, y, hc, ht, hf⟩ := cut_ev s' 47 (by omega)
  have e47 : (((47 : UInt8).toNat : Nat) : Int) = 47 := rfl
  rw [e47] at hc ht hf
  refine Ev.bind hp (Ev.bind hc ?_)
  unfold pspec
  by_cases h47 : hasC 47 (bs s') = true
  · rw [if_pos h47]
    obtain ⟨hx, hy⟩ := ht h47
    have hxs : x.size ≤ N := by have := bef_length 47 (bs s'); rw [← hx, bs_length] at this; omega
    have hys : y.size ≤ N := by have := aft_length 47 (bs s'); rw [← hy, bs_length] at this; omega
    refine Ev.tru h47 ?_
    have q1 := nat_Parse_ev x (by omega)
    have q2 := nat_Parse_ev y (by omega)
    rw [← hx, ← hy]
    refine Ev.bind q1 (Ev.bind q2 ?_)
    cases h1 : pn (bs x) with
    | none =>
      rw [pnR_none h1]
      exact Ev.tru rfl p15
    | some n =>
      rw [pnR_some h1]
      refine Ev.fls rfl ?_
      cases h2 : pn (bs y) with
      | none => rw [pnR_none h2]; exact Ev.tru rfl p15
      | some d =>
        rw [pnR_some h2]
        refine Ev.fls rfl ?_
        rw [lim_len_zero]
        have b1 := (pn_some h1).2.2.2
        have b2 := (pn_some h2).2.2.2
        rw [bs_length] at b1 b2
        by_cases hd : d = 0
        · simp only [if_pos hd]
          exact Ev.tru (dec_t hd) p15
        · simp only [if_neg hd]
          exact Ev.fls (dec_f hd) (Ev.bind (made_sg (M := N) neg (by omega) (by omega) hd (by omega)) Ev.pure)
  · rw [if_neg h47]
    have h47' : hasC 47 (bs s') = false := by simpa using h47
    obtain ⟨rfl, rfl⟩ := hf h47'
    refine Ev.fls h47' ?_
    obtain ⟨x', y', hc, ht, hf⟩ := cut_ev x 46 (by omega)
    have e46 : (((46 : UInt8).toNat : Nat) : Int) = 46 := rfl
    rw [e46] at hc ht hf
    refine Ev.bind hc ?_
    have hxy : bs x' = befC 46 (bs x) ∧ bs y' = frac (bs x) := by
      by_cases h46 : hasC 46 (bs x) = true
      · unfold frac; rw [if_pos h46]; exact ht h46
      · have h46' : hasC 46 (bs x) = false := by simpa using h46
        obtain ⟨rfl, rfl⟩ := hf h46'
        unfold frac; rw [if_neg h46, split_not (fun h => h46 (decide_eq_true h))]
        exact ⟨rfl, rfl⟩
    obtain ⟨hx, hy⟩ := hxy
    have hxs : x'.size ≤ N := by have := bef_length 46 (bs x); rw [← hx, bs_length] at this; omega
    have hys : y'.size ≤ N := by
      have : (frac (bs x)).length ≤ (bs x).length := by unfold frac; split; exact aft_length _ _; simp
      rw [← hy, bs_length] at this; omega
    rw [← hx, ← hy]
    refine Ev.bind (nat_Parse_ev x' (by omega)) ?_
    cases h1 : pn (bs x') with
    | none => rw [pnR_none h1]; exact Ev.tru rfl p25
    | some n =>
      rw [pnR_some h1]
      refine Ev.fls rfl ?_
      have b1 := (pn_some h1).2.2.2
      rw [bs_length] at b1
      have hrest := parse_rest (neg := neg) (n := n) hN hys (by omega)
      by_cases h46 : hasC 46 (bs x) = true
      · refine Ev.tru h46 ?_
        rw [beq_bs]
        by_cases he : bs y' = []
        · simp only [h46, he, and_self, if_true]
          exact Ev.tru (dec_t rfl) p25
        · have hne : ¬ (hasC 46 (bs x) = true ∧ bs y' = []) := fun h => he h.2
          simp only [if_neg hne]
          exact Ev.fls (dec_f he) hrest
      · have hne : ¬ (hasC 46 (bs x) = true ∧ bs y' = []) := fun h => h46 h.1
        simp only [if_neg hne]
        exact Ev.fls (by simpa using h46) hrest

end Go.FK


/- The plain law of the second Ratio seat: Reads, the reference's walk and the law. -/
namespace Go.FK

end Go.FK


/- The plain law: a number's text, read again. -/
namespace Go.FK

theorem bs_append (a b : ByteArray) : bs (a ++ b) = bs a ++ bs b := by
  unfold bs
  rw [ByteArray.data_append, Array.toList_append, List.map_append]
/-! ### Digits -/
theorem chr_eq : ∀ n : Nat, n < 10 → chr n = 48 + (n : Int) := by decide +kernel
theorem bs_push (s : ByteArray) (c : UInt8) : bs (s.push c) = bs s ++ [(c.toNat : Int)] := by
  unfold bs
  rw [ByteArray.data_push, Array.toList_push, List.map_append]
  rfl
theorem bs_ofB_from : ∀ (l : List Int) (s : ByteArray), (∀ x ∈ l, 0 ≤ x ∧ x < 256) → bs (l.foldl (fun s n => s.push (UInt8.ofNat n.toNat)) s) = bs s ++ l
  | [], s, _ => by simp
  | x :: xs, s, h => by
    have hx := h x (by simp)
    rw [List.foldl_cons, bs_ofB_from xs _ (fun y hy => h y (by simp [hy])), bs_push]
    have : ((UInt8.ofNat x.toNat).toNat : Int) = x := by
      rw [UInt8.toNat_ofNat']
      have : x.toNat % 2 ^ 8 = x.toNat := Nat.mod_eq_of_lt (by omega)
      rw [this]; omega
    rw [this, List.append_assoc]
    rfl
theorem bs_ofB {l : List Int} (h : ∀ x ∈ l, 0 ≤ x ∧ x < 256) : bs (ofB l) = l := by
  unfold ofB
  rw [bs_ofB_from l _ h]
  rfl
theorem dg_mem (n : Nat) : ∀ x ∈ dg n, dgt x = true := by
  induction n using Nat.strongRecOn with
  | _ n ih =>
    intro x hx
    by_cases h : n = 0
    · rw [h, dg_zero] at hx; cases hx
    · rw [dg_pos h] at hx
      rcases List.mem_cons.1 hx with hx | hx
      · subst hx
        rw [chr_eq _ (Nat.mod_lt _ (by omega))]
        unfold dgt
        have := Nat.mod_lt n (by omega : 0 < 10)
        simp; omega
      · exact ih _ (by omega) x hx
/-- The digits, the highest first. -/
def dd (n : Nat) : List Int := if n = 0 then [48] else (dg n).reverse
theorem dgt_range {x : Int} (h : dgt x = true) : 48 ≤ x ∧ x ≤ 57 := by
  unfold dgt at h
  simpa using h
theorem bs_txt (n : Nat) : bs (txt n) = dd n := by
  unfold txt fin dd
  by_cases h : n = 0
  · subst h
    rw [dg_zero, if_pos rfl, if_pos rfl]
    rfl
  · have : dg n ≠ [] := by rw [dg_pos h]; simp
    rw [if_neg this, if_neg h]
    exact bs_ofB fun x hx => by
      have := dgt_range (dg_mem n x (by simpa using hx))
      omega
theorem dd_snoc (n : Nat) : ∃ l, dd n = l ++ [48 + ((n % 10 : Nat) : Int)] ∧ (l = [] ∨ l = dd (n / 10)) := by
  by_cases h : n = 0
  · subst h
    exact ⟨[], rfl, .inl rfl⟩
  · unfold dd
    rw [if_neg h, dg_pos h, List.reverse_cons, chr_eq _ (Nat.mod_lt _ (by omega))]
    refine ⟨_, rfl, ?_⟩
    by_cases h1 : n / 10 = 0
    · left; rw [h1, dg_zero]; rfl
    · right; rw [if_neg h1]
theorem dd_all (n : Nat) : (dd n).all dgt = true := by
  rw [List.all_eq_true]
  intro x hx
  unfold dd at hx
  split at hx
  · simp only [List.mem_singleton] at hx; subst hx; decide
  · exact dg_mem n x (by simpa using hx)
theorem dd_val : ∀ n : Nat, dval (dd n) = n := by
  intro n
  induction n using Nat.strongRecOn with
  | _ n ih =>
    by_cases h : n = 0
    · subst h; decide
    · unfold dd
      rw [if_neg h, dg_pos h, List.reverse_cons, dval_snoc, chr_eq _ (Nat.mod_lt _ (by omega))]
      by_cases h1 : n / 10 = 0
      · rw [h1, dg_zero]
        show 0 * 10 + _ = _
        omega
      · have := ih (n / 10) (by omega)
        unfold dd at this
        rw [if_neg h1] at this
        rw [this]
        omega
theorem dd_ne (n : Nat) : dd n ≠ [] := by
  obtain ⟨l, h, _⟩ := dd_snoc n
  rw [h]; simp
/-- No nought at the front of a longer one. -/
theorem dd_head : ∀ n : Nat, 0 < n → nthD 0 (dd n) 0 ≠ 48 := by
  intro n
  induction n using Nat.strongRecOn with
  | _ n ih =>
    intro hn
    obtain ⟨l, h, hl⟩ := dd_snoc n
    by_cases h1 : n / 10 = 0
    · unfold dd
      rw [if_neg (by omega), dg_pos (by omega), h1, dg_zero, chr_eq _ (Nat.mod_lt _ (by omega))]
      show (48 + ((n % 10 : Nat) : Int)) ≠ 48
      omega
    · have h2 := ih (n / 10) (by omega) (by omega)
      have e : dd n = dd (n / 10) ++ [48 + ((n % 10 : Nat) : Int)] := by
        unfold dd
        rw [if_neg (by omega), if_neg h1, dg_pos (by omega), List.reverse_cons, chr_eq _ (Nat.mod_lt _ (by omega))]
      rw [e]
      have hne := dd_ne (n / 10)
      cases hd : dd (n / 10) with
      | nil => exact absurd hd hne
      | cons x xs => rw [hd] at h2; exact h2
theorem dd_zero_head {n : Nat} (h : 1 < (dd n).length) : nthD 0 (dd n) 0 ≠ 48 := by
  by_cases hn : n = 0
  · subst hn; simp [dd] at h
  · exact dd_head n (by omega)
theorem pn_dd (n : Nat) : pn (dd n) = some n := by
  unfold pn
  rw [if_neg (fun h => by
    rcases h with h | h
    · exact dd_ne n h
    · exact dd_zero_head h.1 h.2), if_pos (dd_all n), dd_val]

theorem dd_length10 : ∀ (t n : Nat), n < 10 ^ t → (dg n).length ≤ t := by
  intro t
  induction t with
  | zero => intro n hn; obtain rfl : n = 0 := by simpa using hn
            rw [dg_zero]; simp
  | succ t ih =>
    intro n hn
    by_cases h : n = 0
    · subst h; rw [dg_zero]; simp
    · have := ih (n / 10) (by rw [Nat.pow_succ] at hn; omega)
      rw [dg_pos h, List.length_cons]; omega
theorem dd_size (n : Nat) : (dd n).length ≤ 10 * L n + 1 := by
  unfold dd
  split
  · simp
  · rw [List.length_reverse]
    have h1 := L_lt n
    have h2 : 4294967296 ^ L n ≤ (10 ^ 10) ^ L n := Nat.pow_le_pow_left (by decide) _
    rw [← Nat.pow_mul] at h2
    have := dd_length10 (10 * L n) n (by omega)
    omega

/-! ### A ratio's text -/
def qb (q : Rat) : List Int := (if q.num < 0 then [45] else []) ++ (dd q.num.natAbs ++ (if q.den = 1 then [] else 47 :: dd q.den))
theorem bs_qtxt (q : Rat) : bs (qtxt q) = qb q := by
  have e1 : bs (ByteArray.mk #[45]) = [45] := rfl
  have e2 : bs (ByteArray.mk #[47]) = [47] := rfl
  have hw : bs (wtxt q.num) = (if q.num < 0 then [45] else []) ++ dd q.num.natAbs := by
    unfold wtxt
    split
    · rw [bs_append, bs_txt, e1]
    · rw [bs_txt]; rfl
  unfold qtxt qb
  split
  · rw [hw, List.append_nil]
  · rw [bs_append, bs_append, bs_txt, hw, e2, List.append_assoc]; rfl

def rd (l : List Int) : Option Rat := rspec (sgn0 l) (body l)
theorem rspec_digits (neg : Bool) (n d : Nat) (hd : d ≠ 0) : rspec neg (dd n ++ (if d = 1 then [] else 47 :: dd d)) = some (mkRat (sg neg n) d) := by
  unfold rspec
  by_cases h1 : d = 1
  · subst h1
    rw [if_pos rfl, List.append_nil, (takeWhile_all (dd_all n)).1, (takeWhile_all (dd_all n)).2, pn_dd]
  · rw [if_neg h1]
    have h := takeWhile_append (m := dd d) d47 (dd_all n)
    rw [h.1, h.2, pn_dd]
    simp only [if_true, pn_dd, if_neg hd]
theorem dd_not45 (n : Nat) (t : List Int) : nthD 0 (dd n ++ t) 0 ≠ 45 := by
  have h1 := dd_ne n
  have h2 := dd_all n
  cases hd : dd n with
  | nil => exact absurd hd h1
  | cons x xs =>
    rw [hd, List.all_cons, Bool.and_eq_true] at h2
    have := dgt_range h2.1
    show x ≠ 45
    omega
theorem rd_qb (q : Rat) : rd (qb q) = some q := by
  have hd : q.den ≠ 0 := q.den_nz
  unfold rd qb sgn0 body
  by_cases hn : q.num < 0
  · rw [if_pos hn]
    have c : nthD 0 ([45] ++ (dd q.num.natAbs ++ (if q.den = 1 then [] else 47 :: dd q.den))) 0 = 45 ∧ 0 < ([45] ++ (dd q.num.natAbs ++ (if q.den = 1 then [] else 47 :: dd q.den))).length := ⟨rfl, by simp⟩
    unfold sgn0
    rw [dec_t c, if_pos rfl]
    show rspec true (dd q.num.natAbs ++ _) = _
    rw [rspec_digits _ _ _ hd]
    have : sg true q.num.natAbs = q.num := by unfold sg; rw [if_pos rfl]; omega
    rw [this, Rat.mkRat_self]
  · rw [if_neg hn, List.nil_append]
    have c : ¬ (nthD 0 (dd q.num.natAbs ++ (if q.den = 1 then [] else 47 :: dd q.den)) 0 = 45 ∧ 0 < (dd q.num.natAbs ++ (if q.den = 1 then [] else 47 :: dd q.den)).length) := fun h => dd_not45 _ _ h.1
    unfold sgn0
    rw [dec_f c, if_neg (by simp), rspec_digits _ _ _ hd]
    have : sg false q.num.natAbs = q.num := by unfold sg; rw [if_neg (by simp)]; omega
    rw [this, Rat.mkRat_self]
theorem rd_qtxt (q : Rat) : rd (bs (qtxt q)) = some q := by rw [bs_qtxt]; exact rd_qb q
theorem ratio_Parse_rd (s : ByteArray) (hs : s.size ≤ 16777216) : Ev (fun k => ratio_Parse.f k s) (pR (rd (bs s))) := by
  have h1 := ratio_Parse_ev s (Nat.le_refl _) hs
  rw [specs] at h1
  exact h1
end Go.FK


/- Rational numbers by their parts. -/
namespace Go.FK
/-! ### Rational numbers by their parts -/
theorem qfloor_eq (q : Rat) : qfloor q = q.floor := (Rat.floor_def q).symm
theorem qfloor_le (q : Rat) : (qfloor q : Rat) ≤ q := by rw [qfloor_eq]; exact Rat.floor_le q
theorem lt_qfloor (q : Rat) : q < (qfloor q : Rat) + 1 := by
  have h := Rat.lt_floor_add_one q
  rw [Rat.intCast_add] at h
  rw [qfloor_eq]; exact h
theorem le_qfloor {n : Int} {q : Rat} : n ≤ qfloor q ↔ (n : Rat) ≤ q := by rw [qfloor_eq]; exact Rat.le_floor_iff
theorem sub_int_parts (x : Rat) (n : Int) : (x - (n : Rat)).num = x.num - n * x.den ∧ (x - (n : Rat)).den = x.den := by
  have hc : (x.num - n * x.den).natAbs.Coprime x.den := by
    have h : Int.gcd (x.num - n * x.den) x.den = Int.gcd x.num x.den := Int.gcd_sub_mul_right_left _ _ _
    have h2 : Int.gcd x.num x.den = 1 := x.reduced
    rw [h2] at h
    exact h
  have e : x - (n : Rat) = ⟨x.num - n * x.den, x.den, x.den_nz, hc⟩ := by
    rw [Rat.mk_eq_mkRat, Rat.sub_def']
    simp
  rw [e]
  exact ⟨rfl, rfl⟩
theorem num_pos {x : Rat} (h : 0 < x) : 0 < x.num := by
  have := (Rat.lt_iff 0 x).1 h
  simpa using this
theorem inv_parts {x : Rat} (h : 0 < x) : x⁻¹.num = x.den ∧ (x⁻¹.den : Int) = x.num := by
  have := num_pos h
  rw [Rat.num_inv, Rat.den_inv, if_neg (by omega), Int.sign_eq_one_of_pos this]
  omega
theorem inv_lt {a b : Rat} (ha : 0 < a) (hb : 0 < b) : a⁻¹ < b⁻¹ ↔ b < a := by
  have h1 := inv_parts ha
  have h2 := inv_parts hb
  rw [Rat.lt_iff, Rat.lt_iff, h1.1, h1.2, h2.1, h2.2, Int.mul_comm (a.den : Int), Int.mul_comm (b.den : Int)]
end Go.FK


/- The plain law: RatioFractions. A number's parts. -/
namespace Go.FK
/-- What is left of a number above the greatest whole number below it. -/
def fr (q : Rat) : Rat := q - (qfloor q : Rat)
/-- A number's parts, at most b + 1 of them. -/
def cfB : Nat → Rat → List Int
  | 0, q => [qfloor q]
  | b + 1, q => if fr q = 0 then [qfloor q] else qfloor q :: cfB b (fr q)⁻¹
/-- b + 1 parts are enough. -/
def Few (b : Nat) (q : Rat) : Prop := q.num % q.den * q.den < 2 ^ b
/-- The sizes. -/
def Sz (M : Nat) (q : Rat) : Prop := LZ q.num ≤ M ∧ L q.den ≤ M

theorem fr_parts (q : Rat) : (fr q).num = q.num % q.den ∧ (fr q).den = q.den := by
  have h := sub_int_parts q (qfloor q)
  refine ⟨?_, h.2⟩
  unfold fr
  rw [h.1]
  unfold qfloor
  have := Int.mul_ediv_add_emod q.num q.den
  rw [Int.mul_comm] at this
  omega
theorem den_pos (q : Rat) : (0 : Int) < q.den := by have := q.den_nz; omega
theorem fr_nonneg (q : Rat) : 0 ≤ fr q := by have := qfloor_le q; unfold fr; grind
theorem fr_lt_one (q : Rat) : fr q < 1 := by have := lt_qfloor q; unfold fr; grind
theorem fr_pos {q : Rat} (h : fr q ≠ 0) : 0 < fr q := by have := fr_nonneg q; grind
theorem fr_zero_iff (q : Rat) : fr q = 0 ↔ q.num % q.den = 0 := by
  have h := fr_parts q
  rw [← h.1, Rat.num_eq_zero]
theorem next_parts {q : Rat} (h : fr q ≠ 0) : ((fr q)⁻¹).num = q.den ∧ (((fr q)⁻¹).den : Int) = q.num % q.den := by
  have h1 := fr_parts q
  have h2 := inv_parts (fr_pos h)
  rw [h2.1, h2.2, h1.1, h1.2]
  exact ⟨rfl, rfl⟩
theorem Few.zero {q : Rat} (h : Few 0 q) : fr q = 0 := by
  have hd := den_pos q
  have h1 := Int.emod_nonneg q.num (by omega : (q.den : Int) ≠ 0)
  rw [fr_zero_iff]
  unfold Few at h
  rcases Int.lt_or_le 0 (q.num % q.den) with h2 | h2
  · have : 0 < q.num % q.den * q.den := Int.mul_pos h2 hd
    omega
  · omega
theorem half_of {d m b : Int} (hm : 0 < m) (hd : m < d) (h : m * d < 2 * b) : d % m * m < b := by
  have h1 := Int.emod_nonneg d (by omega : m ≠ 0)
  have h2 := Int.emod_lt_of_pos d hm
  have h3 := Int.mul_ediv_add_emod d m
  have h4 : 1 ≤ d / m := (Int.le_ediv_iff_mul_le hm).2 (by omega)
  have h5 : m * 1 ≤ m * (d / m) := Int.mul_le_mul_of_nonneg_left h4 (by omega)
  have h6 : 2 * (d % m) ≤ d := by omega
  have h7 : m * (2 * (d % m)) ≤ m * d := Int.mul_le_mul_of_nonneg_left h6 (by omega)
  have h8 : m * (2 * (d % m)) = 2 * (d % m * m) := by rw [Int.mul_comm, Int.mul_assoc]
  omega
theorem Few.next {b : Nat} {q : Rat} (h : Few (b + 1) q) (h0 : fr q ≠ 0) : Few b (fr q)⁻¹ := by
  have hd := den_pos q
  have h1 := Int.emod_nonneg q.num (by omega : (q.den : Int) ≠ 0)
  have h2 := Int.emod_lt_of_pos q.num hd
  have hn := next_parts h0
  have hz : q.num % q.den ≠ 0 := fun hc => h0 ((fr_zero_iff q).2 hc)
  unfold Few at h ⊢
  rw [hn.1, hn.2]
  refine half_of (by omega) h2 ?_
  rw [Int.pow_succ] at h
  omega
theorem Sz.next {M : Nat} {q : Rat} (h : Sz M q) (h0 : fr q ≠ 0) : Sz M (fr q)⁻¹ := by
  have hd := den_pos q
  have h1 := Int.emod_nonneg q.num (by omega : (q.den : Int) ≠ 0)
  have h2 := Int.emod_lt_of_pos q.num hd
  have hn := next_parts h0
  refine ⟨?_, ?_⟩
  · rw [hn.1]; exact h.2
  · refine Nat.le_trans (L_mono (m := ((fr q)⁻¹).den) (n := q.den) ?_) h.2
    omega
theorem Sz.floor {M : Nat} {q : Rat} (h : Sz M q) : LZ (qfloor q) ≤ M + 1 := by
  have := LZ_div q.num q.den
  have := h.1
  unfold qfloor
  omega
theorem Sz.LQ {M : Nat} {q : Rat} (h : Sz M q) : LQ q ≤ 2 * M := by have := h.1; have := h.2; unfold FK.LQ; omega
theorem few_of {M : Nat} {q : Rat} (h : Sz M q) : Few (64 * M) q := by
  have hd := den_pos q
  have h1 := Int.emod_nonneg q.num (by omega : (q.den : Int) ≠ 0)
  have h2 := Int.emod_lt_of_pos q.num hd
  have h3 : q.den < 4294967296 ^ M := Nat.lt_of_lt_of_le (L_lt q.den) (Nat.pow_le_pow_right (by omega) h.2)
  have e : (4294967296 : Nat) ^ M = 2 ^ (32 * M) := by rw [Nat.pow_mul]
  rw [e] at h3
  have h4 : q.den * q.den < 2 ^ (32 * M) * 2 ^ (32 * M) := Nat.mul_lt_mul'' h3 h3
  rw [← Nat.pow_add, show 32 * M + 32 * M = 64 * M by omega] at h4
  have h5 : ((q.den * q.den : Nat) : Int) < ((2 ^ (64 * M) : Nat) : Int) := by omega
  have h6 : q.num % q.den * q.den ≤ (q.den : Int) * q.den := Int.mul_le_mul_of_nonneg_right (by omega) (by omega)
  unfold Few
  rw [Int.natCast_mul, Int.natCast_pow] at h5
  have e2 : ((2 : Nat) : Int) = 2 := rfl
  rw [e2] at h5
  exact Int.lt_of_le_of_lt h6 h5

theorem cfB_length : ∀ (b : Nat) (q : Rat), (cfB b q).length ≤ b + 1
  | 0, _ => by simp [cfB]
  | b + 1, q => by
    have := cfB_length b (fr q)⁻¹
    unfold cfB
    split <;> simp <;> omega
theorem cfB_size {M : Nat} : ∀ (b : Nat) (q : Rat), Sz M q → ∀ z ∈ cfB b q, LZ z ≤ M + 1
  | 0, q, h, z, hz => by
    simp only [cfB, List.mem_singleton] at hz
    rw [hz]; exact h.floor
  | b + 1, q, h, z, hz => by
    unfold cfB at hz
    split at hz
    · simp only [List.mem_singleton] at hz
      rw [hz]; exact h.floor
    · rcases List.mem_cons.1 hz with rfl | hz
      · exact h.floor
      · exact cfB_size b _ (h.next (by assumption)) z hz
end Go.FK


/- The plain law: RatioFractions. -/
namespace Go.FK
theorem Sz.fr {M : Nat} {q : Rat} (h : Sz M q) : Sz M (fr q) := by
  have hd := den_pos q
  have h1 := Int.emod_nonneg q.num (by omega : (q.den : Int) ≠ 0)
  have h2 := Int.emod_lt_of_pos q.num hd
  have hp := fr_parts q
  refine ⟨?_, by rw [hp.2]; exact h.2⟩
  rw [hp.1]
  exact Nat.le_trans (L_mono (m := (q.num % q.den).natAbs) (n := q.den) (by omega)) h.2
theorem Sz.int {M : Nat} {q : Rat} (h : Sz M q) : Rt (2 * M + 2) (rat (qfloor q : Rat)) (qfloor q : Rat) := Rt.of (by
  unfold FK.LQ
  rw [Rat.num_intCast, Rat.den_intCast]
  have := h.floor
  have := L_one
  omega)
theorem expand_step {M : Nat} (h1 : 1 ≤ M) (hM : M ≤ 1000000000) (q : Rat) (r : RR) (l : List (Bool × List Int)) (hs : Sz M q) (hr : Rt (2 * M) r q) (hz : fr q = 0 → l = [int (qfloor q)])
    (hn : fr q ≠ 0 → ∃ l', l = int (qfloor q) :: l' ∧ Ev (fun k => expF ratio_Floor.f ratio_of.f (fun k x => ratio_Sub.f k x.1 x.2) ratio_Inv.f k (rat (fr q)⁻¹)) l') :
    Ev (fun k => expF ratio_Floor.f ratio_of.f (fun k x => ratio_Sub.f k x.1 x.2) ratio_Inv.f k r) l := by
  refine Ev.turn (fun k => rfl) ?_
  have hf : Zt (M + 1) (int (qfloor q)) (qfloor q) := Zt.of hs.floor
  have hd : Ev (fun k => ratio_Sub.f k r (rat (qfloor q : Rat))) (rat (FK.fr q)) := (hr.mono (M' := 2 * M + 2) (by omega)).sub hs.int (by omega) (by omega)
  have hfr : Rt (2 * M) (rat (FK.fr q)) (FK.fr q) := Rt.of hs.fr.LQ
  refine Ev.bind (hr.floor (by omega) (by omega)) (Ev.bind (hf.rof (by omega)) (Ev.bind hd ?_))
  by_cases h0 : FK.fr q = 0
  · rw [hz h0]
    rw [h0] at hfr ⊢
    exact Ev.bind (hfr.inv_zero (by omega) (by omega)) (Ev.tru (by simp) Ev.pure)
  · obtain ⟨l', rfl, hl⟩ := hn h0
    exact Ev.bind (hfr.inv (by omega) (by omega) h0) (Ev.fls (by simp) (Ev.bind hl Ev.pure))
theorem expand_p0 {M : Nat} (h1 : 1 ≤ M) (hM : M ≤ 1000000000) : ∀ (b : Nat) (q : Rat) (r : RR), Few b q → Sz M q → Rt (2 * M) r q → Ev (fun k => expF ratio_Floor.f ratio_of.f (fun k x => ratio_Sub.f k x.1 x.2) ratio_Inv.f k r) ((cfB b q).map int)
  | 0, q, r, hw, hs, hr => expand_step h1 hM q r _ hs hr (fun _ => rfl) (fun h => absurd hw.zero h)
  | b + 1, q, r, hw, hs, hr => by
    unfold cfB
    refine expand_step h1 hM q r _ hs hr (fun h => by rw [if_pos h]; rfl) (fun h => ?_)
    rw [if_neg h]
    exact ⟨_, rfl, expand_p0 h1 hM b _ _ (hw.next h) (hs.next h) (Rt.of (hs.next h).LQ)⟩

theorem Rt.sz {M : Nat} {r : RR} {q : Rat} (h : Rt M r q) (h1 : 1 ≤ M) : Sz (2 * M) q := by
  have := h.LQ h1
  have := LQ_num q
  have := LQ_den q
  exact ⟨by omega, by omega⟩
/-- A number's parts. -/
def cf (M : Nat) (q : Rat) : List Int := cfB (64 * (2 * M)) q
variable {M : Nat} {r : RR} {q : Rat}
theorem Rt.expand (h : Rt M r q) (h1 : 1 ≤ M) (hM : M ≤ 10000000) : Ev (fun k => ratio_Expand.f k r) ((cf M q).map int) := by
  have hs := h.sz h1
  have hl := cfB_length (64 * (2 * M)) q
  unfold ratio_Expand.f expandF
  refine Ev.bind (expand_p0 (by omega) (by omega) _ q r (few_of hs) hs (h.mono (by omega))) (Ev.tru ?_ Ev.pure)
  simp only [List.length_map, Bool.and_eq_true, Nat.ble_eq]
  omega
end Go.FK


/- The plain law: RatioBack. A number's parts folded are the number; its text is read as it. -/
namespace Go.FK
theorem cfB_ne (b : Nat) (q : Rat) : cfB b q ≠ [] := by
  cases b with
  | zero => simp [cfB]
  | succ b => unfold cfB; split <;> simp
theorem fold_cons (x : Int) {l : List Int} (h : l ≠ []) : fold (x :: l) = (x : Rat) + (fold l)⁻¹ := by
  cases l with
  | nil => exact absurd rfl h
  | cons y ys => rfl
theorem of_fr_zero {q : Rat} (h : fr q = 0) : (qfloor q : Rat) = q := by unfold fr at h; grind
theorem fold_cf : ∀ (b : Nat) (q : Rat), Few b q → fold (cfB b q) = q
  | 0, q, h => of_fr_zero h.zero
  | b + 1, q, h => by
    unfold cfB
    split
    · rename_i h0
      exact of_fr_zero h0
    · rename_i h0
      rw [fold_cons _ (cfB_ne _ _), fold_cf b _ (h.next h0), Rat.inv_inv]
      unfold fr
      grind
theorem one_le_floor {q : Rat} (h : 1 ≤ q) : 0 < qfloor q := by
  have : (1 : Int) ≤ qfloor q := le_qfloor.2 (by simpa using h)
  omega
theorem one_le_next {q : Rat} (h : fr q ≠ 0) : 1 ≤ (fr q)⁻¹ := by
  have h1 := fr_pos h
  have h2 := fr_lt_one q
  have := (inv_lt (a := 1) (b := fr q) (by decide) h1).2 h2
  have e : (1 : Rat)⁻¹ = 1 := by decide +kernel
  grind
theorem cfB_pos : ∀ (b : Nat) (q : Rat), 1 ≤ q → ∀ x ∈ cfB b q, 0 < x
  | 0, q, h, x, hx => by
    simp only [cfB, List.mem_singleton] at hx
    rw [hx]; exact one_le_floor h
  | b + 1, q, h, x, hx => by
    unfold cfB at hx
    split at hx
    · simp only [List.mem_singleton] at hx
      rw [hx]; exact one_le_floor h
    · rename_i h0
      rcases List.mem_cons.1 hx with rfl | hx
      · exact one_le_floor h
      · exact cfB_pos b _ (one_le_next h0) x hx
theorem cfB_pos1 (b : Nat) (q : Rat) : ∀ x ∈ (cfB b q).drop 1, 0 < x := by
  cases b with
  | zero => simp [cfB]
  | succ b =>
    unfold cfB
    split
    · simp
    · rename_i h0
      simpa using cfB_pos b _ (one_le_next h0)
theorem L_quot {d m : Nat} (hm : 0 < m) (h : m ≤ d) : L (d / m) + m.log2 ≤ d.log2 + 2 := by
  have h1 : m.log2 ≤ d.log2 := (Nat.le_log2 (by omega)).2 (Nat.le_trans (Nat.log2_self_le (by omega)) h)
  have h2 : d < 2 ^ (d.log2 + 1) := Nat.lt_log2_self
  have h3 : 2 ^ m.log2 ≤ m := Nat.log2_self_le (by omega)
  have h4 : 2 ^ (d.log2 - m.log2 + 1) * 2 ^ m.log2 = 2 ^ (d.log2 + 1) := by rw [← Nat.pow_add]; congr 1; omega
  have h5 : 2 ^ (d.log2 - m.log2 + 1) * 2 ^ m.log2 ≤ 2 ^ (d.log2 - m.log2 + 1) * m := Nat.mul_le_mul_left _ h3
  have h6 : d / m < 2 ^ (d.log2 - m.log2 + 1) := (Nat.div_lt_iff_lt_mul hm).2 (by omega)
  have h7 : 2 ^ (d.log2 - m.log2 + 1) ≤ 4294967296 ^ (d.log2 - m.log2 + 1) := Nat.pow_le_pow_left (by decide) _
  have := L_le (Nat.lt_of_lt_of_le h6 h7)
  omega
theorem floor_cost {q : Rat} (h : 1 ≤ q) : LZ (qfloor q) + q.den.log2 ≤ q.num.natAbs.log2 + 2 := by
  have h1 := ge_one_num h
  have hd := den_pos q
  have e : (qfloor q).natAbs = q.num.natAbs / q.den := by
    unfold qfloor
    have : q.num = (q.num.natAbs : Int) := by omega
    generalize q.num.natAbs = n at this ⊢
    rw [this, ← Int.natCast_ediv]
    exact Int.natAbs_natCast _
  unfold LZ
  rw [e]
  exact L_quot (by omega) (by omega)
theorem cost_cf : ∀ (b : Nat) (q : Rat), 1 ≤ q → cost (cfB b q) ≤ q.num.natAbs.log2 + 4 * (b + 1)
  | 0, q, h => by
    have := floor_cost h
    simp only [cfB, cost]; omega
  | b + 1, q, h => by
    have hf := floor_cost h
    unfold cfB
    split
    · simp only [cost]; omega
    · rename_i h0
      have := cost_cf b _ (one_le_next h0)
      rw [(next_parts h0).1] at this
      simp only [cost, Int.natAbs_natCast] at this ⊢
      omega
theorem log_den {M : Nat} {q : Rat} (h : Sz M q) : q.den.log2 ≤ 32 * M := by
  have h3 : q.den < 4294967296 ^ M := Nat.lt_of_lt_of_le (L_lt q.den) (Nat.pow_le_pow_right (by omega) h.2)
  have e : (4294967296 : Nat) ^ M = 2 ^ (32 * M) := by rw [Nat.pow_mul]
  rw [e] at h3
  exact Nat.le_of_lt ((Nat.log2_lt q.den_nz).2 h3)
theorem cost_cfs {M : Nat} {q : Rat} (b : Nat) (h : Sz M q) : cost (cfB b q) ≤ 33 * M + 4 * (b + 1) := by
  have hf := h.floor
  have hl := log_den h
  cases b with
  | zero => simp only [cfB, cost]; omega
  | succ b =>
    unfold cfB
    split
    · simp only [cost]; omega
    · rename_i h0
      have := cost_cf b _ (one_le_next h0)
      rw [(next_parts h0).1] at this
      simp only [cost, Int.natAbs_natCast] at this ⊢
      omega
theorem Zv_int (z : Int) : Zv (int z) = z := (Zt.of (Nat.le_refl (LZ z))).val
theorem zs_int (l : List Int) : zs (l.map int) = l := by
  unfold zs
  rw [List.map_map]
  conv => rhs; rw [← List.map_id l]
  apply List.map_congr_left
  intro z _
  exact Zv_int z
variable {M : Nat} {r : RR} {q : Rat}
theorem Rt.foldx (h : Rt M r q) (h1 : 1 ≤ M) (hM : M ≤ 1048576) : Ev (fun k => ratio_Fold.f k ((cf M q).map int)) (rat q, (0 : Int)) := by
  have hs := h.sz h1
  have hl := cfB_length (64 * (2 * M)) q
  have hz := cfB_size (64 * (2 * M)) q hs
  have hc := cost_cfs (64 * (2 * M)) hs
  have hw := few_of hs
  have e : foldA ((cf M q).map int) = (rat q, (0 : Int)) := by
    unfold foldA foldR
    rw [if_neg (by simp [cf, cfB_ne]), zs_int]
    unfold cf
    rw [if_pos (cfB_pos1 _ _)]
    rw [fold_cf _ _ hw]
  rw [← e]
  refine fold_ev (M := 2 * M + 1) ?_ (by omega) (by rw [List.length_map]; unfold cf; omega) (by rw [zs_int]; unfold cf; omega)
  intro x hx
  obtain ⟨z, hz', rfl⟩ := List.mem_map.1 hx
  have := Zt.of (hz z hz')
  exact ⟨this.lim, this.len⟩
theorem Rt.parts_LQ (h : Rt M r q) : FK.LQ q ≤ r.1.2.length + r.2.length + 1 := by
  have h1 : Zt r.1.2.length r.1 (Zv r.1) := ⟨h.num, rfl, Nat.le_refl _⟩
  have h2 : Nt r.2.length r.2 (V r.2).toNat := ⟨h.den, (V_norm_lim h.den).2.symm, Nat.le_refl _⟩
  have h3 : Rt (max r.1.2.length r.2.length) (r.1, r.2) (mkRat (Zv r.1) (V r.2).toNat) := Rt.mk2 (h1.mono (by omega)) (h2.mono (by omega))
  have h4 : mkRat (Zv r.1) (V r.2).toNat = q := h3.val.symm.trans h.val
  have := LQ_mkRat (Zv r.1) (V r.2).toNat
  have l1 := h1.LZ
  have l2 := h2.L
  rw [h4] at this
  omega
theorem qtxt_size (q : Rat) : (qtxt q).size ≤ 10 * LQ q + 10 := by
  rw [← bs_length, bs_qtxt]
  have h1 := dd_size q.num.natAbs
  have h2 := dd_size q.den
  unfold qb FK.LQ LZ
  split <;> split <;> simp <;> omega
theorem back_ev (h : Rt M r q) (h1 : 1 ≤ M) (hM : M ≤ 1048576) (hN : LQ q ≤ 1600000) : Ev (fun k => law03_RatioBack.f k r) true := by
  have b1 := h.nlen
  have b2 := h.dlen
  have hs := qtxt_size q
  have t := h.twin (by omega)
  have hp := ratio_Parse_rd (qtxt q) (by omega)
  rw [rd_qtxt] at hp
  have hsm := same_rat (M := 1600000) hN (by omega)
  unfold law03_RatioBack.f law03_RatioBack.e
  refine Ev.bind (within_ev (by omega) (by omega)) (Ev.bind t (Ev.bind (h.norm (by omega)) (Ev.bind t (Ev.bind (h.text h1 (by omega)) (Ev.bind hp (Ev.bind t (Ev.bind (h.expand h1 (by omega)) (Ev.bind (h.foldx h1 hM) (Ev.bind half_ev (Ev.tru rfl (Ev.tru (by simp [pR]) (Ev.tru (by simp) ?_))))))))))))
  exact Ev.bind hsm (Ev.tru rfl (Ev.bind hsm Ev.pure))
theorem back_math (x : TD [tyRat]) (hw : wfDs (encT [tyRat] x)) (hm : massDs (encT [tyRat] x) ≤ 1048576) : ∃ k, law03_RatioBack.f k x = some true := by
  obtain ⟨h1, _⟩ := hw
  have hm' : tyRat.mass x + 0 ≤ 1048576 := hm
  have hr := rat_rt (r := x) h1 (M := 1048576) (by omega)
  have e : tyRat.mass x = (1 + tyNat.mass x.1.2) + tyNat.mass x.2 := rfl
  rw [nat_mass, nat_mass] at e
  have := hr.parts_LQ
  exact (back_ev hr (by omega) (by omega) (by omega)).some
end Go.FK
