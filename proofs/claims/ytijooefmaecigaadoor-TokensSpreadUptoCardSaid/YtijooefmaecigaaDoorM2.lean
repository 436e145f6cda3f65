import Derived.Test.YtijooefmaecigaaDoorM1

/- Tokens: the reference's look. -/
namespace Go.FK

variable {S : ByteArray} {i : Nat} {fin : Bool}
theorem w1 {n : Nat} (h : n ≤ 4294967300) : IntKind.i64.wrap ((n : Int) + 1) = ((n + 1 : Nat) : Int) := by rw [wr (by omega) (by omega)]; omega
/-! ### Bars -/
/-! ### A string -/
theorem ble_bound {n : Nat} (h : n ≤ 4294967300) (m : Nat) (hm : m ≤ 100) : (Nat.ble (n * m) 140737488355328 && Nat.ble n 9223372036854775807) = true := by
  have : n * m ≤ 4294967300 * 100 := Nat.mul_le_mul h hm
  simp only [Bool.and_eq_true, Nat.ble_eq]
  omega

/-! ### Keywords, numbers, what begins with a sharp sign -/
theorem Ev.pass {α : Type} {f : Nat → Option α} {r : α} (h : Ev f r) : Ev (fun k => Option.bind (f k) fun y => Option.some y) r := Ev.bind h Ev.pure

end Go.FK


/- Tokens: gaps, places; what begins at a place ends behind it. -/
namespace Go.FK

variable {S : ByteArray}

/-! ### Gaps -/
/-- Where the blanks and comments from i on end, and whether that is within a comment (c: one begins within one). -/
def gapS (S : ByteArray) (c : Bool) (i : Nat) : Nat × Bool :=
  if h : i < S.size then
    (if hc : c = true then (if bt S i = 10 ∨ bt S i = 13 then gapS S false i else gapS S true (i + 1))
    else if bt S i = 59 then gapS S true (i + 1) else if blkB (bt S i) = true then gapS S false (i + 1) else (i, false))
  else (i, c)
termination_by 2 * (S.size - i) + (if c = true then 1 else 0)
decreasing_by
  · subst hc; simp
  · subst hc; simp; omega
  · simp [hc]; omega
  · simp [hc]; omega

theorem gapS_end {c : Bool} {i : Nat} (h : ¬ i < S.size) : gapS S c i = (i, c) := by rw [gapS, dif_neg h]
theorem gapS_line {i : Nat} (h : i < S.size) (hb : bt S i = 10 ∨ bt S i = 13) : gapS S true i = gapS S false i := by rw [gapS, dif_pos h, dif_pos rfl, if_pos hb]
theorem gapS_in {i : Nat} (h : i < S.size) (hb : ¬ (bt S i = 10 ∨ bt S i = 13)) : gapS S true i = gapS S true (i + 1) := by rw [gapS, dif_pos h, dif_pos rfl, if_neg hb]
theorem gapS_semi {i : Nat} (h : i < S.size) (hb : bt S i = 59) : gapS S false i = gapS S true (i + 1) := by rw [gapS, dif_pos h, dif_neg (by decide), if_pos hb]
theorem gapS_blank {i : Nat} (h : i < S.size) (h0 : bt S i ≠ 59) (hb : blkB (bt S i) = true) : gapS S false i = gapS S false (i + 1) := by rw [gapS, dif_pos h, dif_neg (by decide), if_neg h0, if_pos hb]
theorem gapS_stop {i : Nat} (h : i < S.size) (h0 : bt S i ≠ 59) (hb : blkB (bt S i) = false) : gapS S false i = (i, false) := by rw [gapS, dif_pos h, dif_neg (by decide), if_neg h0, if_neg (by rw [hb]; decide)]

/-- What holds of gaps. -/
theorem gapS_ind {P : Bool → Nat → Nat × Bool → Prop} (hend : ∀ c i, ¬ i < S.size → P c i (i, c)) (hline : ∀ i r, i < S.size → (bt S i = 10 ∨ bt S i = 13) → P false i r → P true i r) (hin : ∀ i r, i < S.size → ¬ (bt S i = 10 ∨ bt S i = 13) → P true (i + 1) r → P true i r)
    (hsemi : ∀ i r, i < S.size → bt S i = 59 → P true (i + 1) r → P false i r) (hblank : ∀ i r, i < S.size → bt S i ≠ 59 → blkB (bt S i) = true → P false (i + 1) r → P false i r) (hstop : ∀ i, i < S.size → bt S i ≠ 59 → blkB (bt S i) = false → P false i (i, false)) :
    ∀ m c i, 2 * (S.size - i) + (if c = true then 1 else 0) ≤ m → P c i (gapS S c i) := by
  intro m
  induction m with
  | zero =>
    intro c i hm
    rw [gapS_end (by omega)]
    exact hend c i (by omega)
  | succ m ih =>
    intro c i hm
    by_cases h : i < S.size
    · cases c with
      | true =>
        simp only [if_true] at hm
        by_cases hb : bt S i = 10 ∨ bt S i = 13
        · rw [gapS_line h hb]
          exact hline i _ h hb (ih false i (by simp; omega))
        · rw [gapS_in h hb]
          exact hin i _ h hb (ih true (i + 1) (by simp; omega))
      | false =>
        by_cases h0 : bt S i = 59
        · rw [gapS_semi h h0]
          exact hsemi i _ h h0 (ih true (i + 1) (by simp; omega))
        · cases hb : blkB (bt S i) with
          | true =>
            rw [gapS_blank h h0 hb]
            exact hblank i _ h h0 hb (ih false (i + 1) (by simp; omega))
          | false =>
            rw [gapS_stop h h0 hb]
            exact hstop i h h0 hb
    · rw [gapS_end h]
      exact hend c i h

theorem gapS_ge (S : ByteArray) (c : Bool) (i : Nat) : i ≤ (gapS S c i).1 ∧ (i ≤ S.size → (gapS S c i).1 ≤ S.size) :=
  gapS_ind (P := fun _ i r => i ≤ r.1 ∧ (i ≤ S.size → r.1 ≤ S.size)) (fun _ i _ => ⟨Nat.le_refl _, fun h => h⟩) (fun _ _ _ _ h => h) (fun _ _ _ _ h => ⟨by omega, fun _ => h.2 (by omega)⟩) (fun _ _ _ _ h => ⟨by omega, fun _ => h.2 (by omega)⟩) (fun _ _ _ _ _ h => ⟨by omega, fun _ => h.2 (by omega)⟩)
    (fun i _ _ _ => ⟨Nat.le_refl _, fun h => h⟩) _ c i (Nat.le_refl _)
/-- A gap that ends within the text ends at no blank and in no comment. -/
theorem gapS_at (S : ByteArray) (c : Bool) (i : Nat) : (gapS S c i).1 < S.size → (gapS S c i).2 = false ∧ bt S (gapS S c i).1 ≠ 59 ∧ blkB (bt S (gapS S c i).1) = false :=
  gapS_ind (P := fun _ _ r => r.1 < S.size → r.2 = false ∧ bt S r.1 ≠ 59 ∧ blkB (bt S r.1) = false) (fun _ _ h h' => absurd h' h) (fun _ _ _ _ h => h) (fun _ _ _ _ h => h) (fun _ _ _ _ h => h) (fun _ _ _ _ _ h => h)
    (fun _ _ h0 hb _ => ⟨rfl, h0, hb⟩) _ c i (Nat.le_refl _)
/-! ### Places -/
def lc (S : ByteArray) : Nat → Nat × Nat
  | 0 => (1, 1)
  | i + 1 => if bt S i = 10 then ((lc S i).1 + 1, 1) else ((lc S i).1, (lc S i).2 + 1)
theorem lc_le (S : ByteArray) : ∀ i, (lc S i).1 ≤ i + 1 ∧ (lc S i).2 ≤ i + 1
  | 0 => ⟨Nat.le_refl _, Nat.le_refl _⟩
  | i + 1 => by
    have := lc_le S i
    unfold lc
    split
    · exact ⟨by simp only; omega, by simp only; omega⟩
    · exact ⟨by simp only; omega, by simp only; omega⟩
theorem lc_line {i : Nat} (h : bt S i = 10) : lc S (i + 1) = ((lc S i).1 + 1, 1) := by rw [lc, if_pos h]
theorem lc_in {i : Nat} (h : bt S i ≠ 10) : lc S (i + 1) = ((lc S i).1, (lc S i).2 + 1) := by rw [lc, if_neg h]

abbrev TK : Type := Int × ByteArray × Int × Int × Int × Int
abbrev SC : Type := Int × ByteArray × Bool × TK × Int
def plc (S : ByteArray) (i : Nat) : TK := (0, ByteArray.mk #[], (i : Int), (i : Int), ((lc S i).1 : Int), ((lc S i).2 : Int))
/-- A scanner at a place of what has come. -/
def scn (S : ByteArray) (st : Int) (i : Nat) (c : Bool) (er : Int) : SC := (st, rst S i, c, plc S i, er)

theorem pass_loop (hS : S.size ≤ 4294967280) {i n : Nat} (hn : i + n ≤ S.size) (st : Int) (c : Bool) (er : Int) : ∀ m j, m + j = n →
    Ev (fun k => tokens_Scanner_pass.p0 k (st, rst S i, c, ((0 : Int), ByteArray.mk #[], (i : Int), (i : Int), ((lc S (i + j)).1 : Int), ((lc S (i + j)).2 : Int)), er) (n : Int) (n : Int) (j : Int)) (scn S st (i + n) c er) := by
  intro m
  induction m with
  | zero =>
    intro j hj
    obtain rfl : j = n := by omega
    refine Ev.turn (fun k => tokens_Scanner_pass.p0_succ k _ _ _ _) ?_
    unfold tokens_Scanner_pass.e0
    dsimp only
    have e1 : IntKind.i64.wrap ((i : Int) + (j : Int)) = ((i + j : Nat) : Int) := by rw [wr (by omega) (by omega)]; omega
    rw [e1, Int.toNat_natCast, Int.toNat_natCast, rst_rst S hn]
    refine Ev.fls (dec_f (by omega)) (Ev.tru (by rw [rst_size]; simp; omega) Ev.pure)
  | succ m ih =>
    intro j hj
    have hl := lc_le S (i + j)
    refine Ev.turn (fun k => tokens_Scanner_pass.p0_succ k _ _ _ _) ?_
    unfold tokens_Scanner_pass.e0
    dsimp only
    rw [rst_btI S (by omega), w1 (by omega), w1 (by omega)]
    refine Ev.tru (dec_t (by omega)) (Ev.tru (by rw [rst_size]; simp; omega) ?_)
    have := ih (j + 1) (by omega)
    rw [show i + (j + 1) = i + j + 1 by omega] at this
    by_cases cc : bt S (i + j) = 10
    · rw [lc_line cc] at this
      refine Ev.tru (dec_t cc) (Ev.turn (fun k => tokens_Scanner_pass.p15_succ k _ _ _ _) ?_)
      unfold tokens_Scanner_pass.e15
      rw [w1 (by omega)]
      exact this
    · rw [lc_in cc] at this
      refine Ev.fls (dec_f cc) (Ev.turn (fun k => tokens_Scanner_pass.p15_succ k _ _ _ _) ?_)
      unfold tokens_Scanner_pass.e15
      rw [w1 (by omega)]
      exact this
theorem pass_ev (hS : S.size ≤ 4294967280) {i n : Nat} (hn : i + n ≤ S.size) (st : Int) (c : Bool) (er : Int) : Ev (fun k => tokens_Scanner_pass.f k (scn S st i c er) (n : Int)) (scn S st (i + n) c er) :=
  pass_loop hS hn st c er n 0 (by omega)

theorem skip_ev (hS : S.size ≤ 4294967280) (st er : Int) : ∀ m c i, 2 * (S.size - i) + (if c = true then 1 else 0) ≤ m → i ≤ S.size → Ev (fun k => tokens_Scanner_skip.p0 k (scn S st i c er)) (scn S st (gapS S c i).1 (gapS S c i).2 er) := by
  intro m
  have hend : ∀ c i, ¬ i < S.size → Ev (fun k => tokens_Scanner_skip.p0 k (scn S st i c er)) (scn S st (gapS S c i).1 (gapS S c i).2 er) := by
    intro c i h
    refine Ev.turn (fun k => tokens_Scanner_skip.p0_succ k _) ?_
    unfold tokens_Scanner_skip.e0 scn
    dsimp only
    rw [empty_beq, rst_size, gapS_end h]
    exact Ev.fls (by rw [dec_t (by omega)]; rfl) Ev.pure
  induction m with
  | zero => intro c i hm hi; exact hend c i (by omega)
  | succ m ih =>
    intro c i hm hi
    by_cases h : i < S.size
    · have h17 : ∀ c2, (i + 1 ≤ S.size → Ev (fun k => tokens_Scanner_skip.p0 k (scn S st (i + 1) c2 er)) (scn S st (gapS S c i).1 (gapS S c i).2 er)) → Ev (fun k => tokens_Scanner_skip.p17 k (scn S st i c2 er)) (scn S st (gapS S c i).1 (gapS S c i).2 er) := by
        intro c2 hx
        refine Ev.turn (fun k => tokens_Scanner_skip.p17_succ k _) ?_
        unfold tokens_Scanner_skip.e17
        exact Ev.bind (pass_ev hS (i := i) (n := 1) (by omega) st c2 er) (hx (by omega))
      refine Ev.turn (fun k => tokens_Scanner_skip.p0_succ k _) ?_
      unfold tokens_Scanner_skip.e0
      rw [show (scn S st i c er).2.1 = rst S i from rfl, show (scn S st i c er).2.2.1 = c from rfl, empty_beq, rst_bt0 S h]
      refine Ev.tru (by rw [rst_size, dec_f (by omega)]; rfl) (Ev.tru (by rw [rst_size]; exact dec_t (by omega)) ?_)
      cases c with
      | true =>
        simp only [if_true] at hm
        refine Ev.tru rfl ?_
        by_cases hb : bt S i = 10 ∨ bt S i = 13
        · have h7 : Ev (fun k => tokens_Scanner_skip.p7 k (scn S st i true er) (bt S i)) (scn S st (gapS S true i).1 (gapS S true i).2 er) := by
            refine Ev.turn (fun k => tokens_Scanner_skip.p7_succ k _ _) ?_
            unfold tokens_Scanner_skip.e7
            rw [gapS_line h hb]
            exact Ev.tru rfl (ih false i (by simp; omega) hi)
          by_cases h10 : bt S i = 10
          · exact Ev.fls (by rw [dec_t h10]; rfl) h7
          · refine Ev.tru (by rw [dec_f h10]; rfl) (Ev.fls ?_ h7)
            rw [dec_t (hb.resolve_left h10)]; rfl
        · refine Ev.tru (by rw [dec_f (fun h => hb (.inl h))]; rfl) (Ev.tru (by rw [dec_f (fun h => hb (.inr h))]; rfl) ?_)
          refine h17 true fun hi1 => ?_
          rw [gapS_in h hb]
          exact ih true (i + 1) (by simp; omega) hi1
      | false =>
        refine Ev.fls rfl (Ev.turn (fun k => tokens_Scanner_skip.p7_succ k _ _) ?_)
        unfold tokens_Scanner_skip.e7
        rw [show (scn S st i false er).2.2.1 = false from rfl]
        refine Ev.fls rfl ?_
        by_cases h0 : bt S i = 59
        · refine Ev.tru (dec_t h0) (h17 true fun hi1 => ?_)
          rw [gapS_semi h h0]
          exact ih true (i + 1) (by simp; omega) hi1
        · refine Ev.fls (dec_f h0) (Ev.bind (blank_ev (bt_in S i)) ?_)
          cases hb : blkB (bt S i) with
          | true =>
            refine Ev.fls rfl (h17 false fun hi1 => ?_)
            rw [gapS_blank h h0 hb]
            exact ih false (i + 1) (by simp; omega) hi1
          | false =>
            rw [gapS_stop h h0 hb]
            exact Ev.tru rfl Ev.pure
    · exact hend c i h

/-! ### What is there ends behind its beginning -/
theorem dq_len : ∀ (n : Nat) (l : List UInt8), l.length ≤ n → (dq l).length ≤ l.length := by
  intro n
  induction n with
  | zero =>
    intro l hl
    obtain rfl : l = [] := List.eq_nil_of_length_eq_zero (by omega)
    exact Nat.le_refl _
  | succ n ih =>
    intro l hl
    match l, hl with
    | [], _ => exact Nat.le_refl _
    | [b], _ => exact Nat.le_refl _
    | b :: c :: l, hl =>
      simp only [List.length_cons] at hl
      rw [dq]
      split
      · have := ih l (by omega)
        simp only [List.length_cons]; omega
      · have := ih (c :: l) (by simp; omega)
        simp only [List.length_cons] at this ⊢; omega
theorem txt_size (a b : Nat) : (txt S a b).size ≤ S.size := by
  have h1 : (txt S a b).size = (dq (S.extract a b).data.toList).length := by
    show (dq (S.extract a b).data.toList).toArray.size = _
    simp
  have h2 := dq_len _ (S.extract a b).data.toList (Nat.le_refl _)
  have h3 : (S.extract a b).data.toList.length = (S.extract a b).size := Array.length_toList
  rw [h3, ByteArray.size_extract] at h2
  omega
theorem extr_size (a b : Nat) : (S.extract a b).size ≤ S.size := by rw [ByteArray.size_extract]; omega

/-- What is said of a place. -/
def OkL (S : ByteArray) (i : Nat) (fin : Bool) : Lk → Prop
  | .opn => fin = false
  | .whl _ t e => i < e ∧ e ≤ S.size ∧ t.size ≤ S.size
  | .bad c a => i ≤ a ∧ a < S.size ∧ (c = 120 ∨ c = 121)

variable {i : Nat} {fin : Bool}
theorem ok_bad (hi : i < S.size) : OkL S i fin (.bad 120 i) := ⟨Nat.le_refl _, hi, .inl rfl⟩
theorem ok_quote (hi : i < S.size) : OkL S i fin (if fin = true then .bad 121 i else .opn) := by
  cases fin with
  | true => exact ⟨Nat.le_refl _, hi, .inr rfl⟩
  | false => rfl
theorem ok_ends (hi : i < S.size) {kd : Int} {a e : Nat} (h1 : i < e) (h2 : e ≤ S.size) : OkL S i fin (endsL S i fin kd a e) := by
  unfold endsL
  split
  · rename_i h; exact h.2
  · split
    · exact ok_bad hi
    · exact ⟨h1, h2, extr_size _ _⟩
theorem ok_sharpE (hi : i + 1 < S.size) {kd : Int} {e : Nat} (h1 : i + 2 ≤ e) (h2 : e ≤ S.size) : OkL S i fin (sharpE S i fin kd e) := by
  unfold sharpE
  split
  · split
    · rename_i h; exact h.2
    · exact ok_bad (by omega)
  · exact ok_ends (by omega) (by omega) h2
theorem ok_sharp (hi : i < S.size) : OkL S i fin (sharpL S i fin) := by
  unfold sharpL
  split
  · cases fin with
    | true => exact ok_bad hi
    | false => rfl
  · split
    · exact ok_sharpE (by omega) (runE_le _ _ _) (runE_size _ _ (by omega))
    · split
      · exact ok_sharpE (by omega) (runE_le _ _ _) (runE_size _ _ (by omega))
      · exact ok_bad hi
theorem ok_word (hi : i < S.size) {kd : Int} {a : Nat} (ha : i ≤ a) (ha2 : a ≤ S.size) : OkL S i fin (wordL S i fin kd a) := by
  unfold wordL wordE
  have h1 := runE_le sgB S a
  have h2 := runE_size sgB S ha2
  split
  · exact ok_bad hi
  · split
    · rename_i h; exact h.2
    · split
      · exact ok_bad hi
      · exact ⟨by omega, h2, extr_size _ _⟩
theorem ok_num (hi : i < S.size) (hd : digB (bt S i) = true) : OkL S i fin (numL S i fin) := by
  unfold numL numE
  have h0 : i < runE digB S i := by
    rw [runE_yes hi hd]
    have := runE_le digB S (i + 1)
    omega
  have h2 := runE_size digB S (Nat.le_of_lt hi)
  split
  · exact ok_bad hi
  · split
    · rename_i h
      split
      · split
        · rename_i h; exact h.2
        · exact ok_bad hi
      · have := runE_le digB S (runE digB S i + 1)
        exact ok_ends hi (by omega) (runE_size _ _ (by omega))
    · exact ok_ends hi h0 h2
theorem ok_bar (hi : i < S.size) : ∀ m j, S.size - j ≤ m → i < j → OkL S i fin (barE S i fin j) := by
  intro m
  induction m with
  | zero =>
    intro j hm _
    rw [barE_end (by omega)]
    exact ok_quote hi
  | succ m ih =>
    intro j hm hij
    by_cases h : j < S.size
    · rw [barE_step h]
      split
      · exact ⟨by omega, by omega, extr_size _ _⟩
      · split
        · exact ⟨by omega, h, .inl rfl⟩
        · exact ih (j + 1) (by omega) (by omega)
    · rw [barE_end h]
      exact ok_quote hi
theorem ok_text (hi : i < S.size) : ∀ m j, S.size - j ≤ m → i < j → OkL S i fin (textE S i fin j) := by
  intro m
  induction m with
  | zero =>
    intro j hm _
    rw [textE_end (by omega)]
    exact ok_quote hi
  | succ m ih =>
    intro j hm hij
    by_cases h : j < S.size
    · by_cases hq : bt S j = 34
      · rw [textE_quote h hq]
        split
        · exact ih (j + 2) (by omega) (by omega)
        · split
          · rename_i h; exact h.2
          · exact ⟨by omega, by omega, txt_size _ _⟩
      · rw [textE_step h hq]
        split
        · exact ⟨by omega, h, .inl rfl⟩
        · exact ih (j + 1) (by omega) (by omega)
    · rw [textE_end h]
      exact ok_quote hi
theorem ok_lk (hi : i < S.size) : OkL S i fin (lk S i fin) := by
  unfold lk
  split
  · exact ⟨by omega, by omega, by show 1 ≤ _; omega⟩
  split
  · exact ⟨by omega, by omega, by show 1 ≤ _; omega⟩
  split
  · exact ok_bar hi _ _ (Nat.le_refl _) (by omega)
  split
  · exact ok_text hi _ _ (Nat.le_refl _) (by omega)
  split
  · exact ok_sharp hi
  split
  · exact ok_word hi (by omega) (by omega)
  split
  · rename_i h; exact ok_num hi h
  split
  · exact ok_word hi (Nat.le_refl _) (Nat.le_of_lt hi)
  · exact ok_bad hi

end Go.FK
