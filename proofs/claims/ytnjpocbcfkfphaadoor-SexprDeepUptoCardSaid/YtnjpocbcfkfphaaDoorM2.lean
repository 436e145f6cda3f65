import Derived.Test.YtnjpocbcfkfphaaDoorM1

/- Tokens: the reference's look. -/
namespace Go.FK
abbrev SE : Type := Int × Int × ByteArray × Int × Int × Int
def encL : Lk → SE
  | .opn => (1, 0, ByteArray.mk #[], 0, 0, 0)
  | .whl k t e => (0, k, t, (e : Int), 0, 0)
  | .bad c a => (2, 0, ByteArray.mk #[], 0, c, (a : Int))
variable {S : ByteArray} {i : Nat} {fin : Bool}
theorem rbad_ev (a : Nat) : Ev (fun k => Option.bind (ref12_bad.f k (a : Int)) fun r => some r) (encL (.bad 120 a)) :=
  Ev.bind (r := encL (.bad 120 a)) ⟨0, fun _ _ => rfl⟩ Ev.pure
theorem unless_ev (k0 : Int) (t : ByteArray) (e : Nat) (last : Bool) : Ev (fun k => Option.bind (ref12_unless.f k k0 t (e : Int) last fin) fun r => some r) (encL (if last = true ∧ fin = false then .opn else .whl k0 t e)) := by
  have h7 : Ev (fun k => ref12_unless.p7 k ((0 : Int), (0 : Int), ByteArray.mk #[], (0 : Int), (0 : Int), (0 : Int)) k0 t (e : Int)) (encL (.whl k0 t e)) := Ev.turn (fun k => ref12_unless.p7_succ k _ _ _ _) Ev.pure
  refine Ev.bind ?_ Ev.pure
  unfold ref12_unless.f ref12_unless.e
  cases last with
  | false => rw [if_neg (by simp)]; exact Ev.fls rfl h7
  | true =>
    cases fin with
    | false => rw [if_pos (by simp)]; exact Ev.tru rfl (Ev.tru rfl Ev.pure)
    | true => rw [if_neg (by simp)]; exact Ev.tru rfl (Ev.fls rfl h7)
theorem unless_at (S : ByteArray) (k0 : Int) (t : ByteArray) (e : Nat) : Ev (fun k => Option.bind (ref12_unless.f k k0 t (e : Int) (decide ((e : Int) = (S.size : Int))) fin) fun r => some r) (encL (if e = S.size ∧ fin = false then .opn else .whl k0 t e)) := by
  have := unless_ev (fin := fin) k0 t e (decide ((e : Int) = (S.size : Int)))
  by_cases c : e = S.size
  · rw [dec_t (show (e : Int) = (S.size : Int) by omega)] at this ⊢
    simp only [true_and] at this
    simpa [c] using this
  · rw [dec_f (show ¬ (e : Int) = (S.size : Int) by omega)] at this ⊢
    simpa [c] using this
theorem w1 {n : Nat} (h : n ≤ 4294967300) : IntKind.i64.wrap ((n : Int) + 1) = ((n + 1 : Nat) : Int) := by rw [wr (by omega) (by omega)]; omega
theorem w2 {n : Nat} (h : n ≤ 4294967300) : IntKind.i64.wrap ((n : Int) + 2) = ((n + 2 : Nat) : Int) := by rw [wr (by omega) (by omega)]; omega
theorem digs_ev (hS : S.size ≤ 4294967280) (q : Int) {j : Nat} (h : j ≤ S.size) : Ev (fun k => ref12_digitsEnd.f k S (j : Int) q) ((runE (kdB q) S j : Nat) : Int) := digitsEnd_ev hS q (S.size - j) j (by omega)
theorem syms_ev (hS : S.size ≤ 4294967280) {j : Nat} (h : j ≤ S.size) : Ev (fun k => ref12_symbolEnd.f k S (j : Int)) ((runE sgB S j : Nat) : Int) := symbolEnd_ev hS (S.size - j) j (by omega)
theorem rbar_loop (hS : S.size ≤ 4294967280) (hi : i < S.size) : ∀ m j, m + j = S.size → i + 1 ≤ j → Ev (fun k => ref12_barred.p0 k ((0 : Int), (0 : Int), ByteArray.mk #[], (0 : Int), (0 : Int), (0 : Int)) S (i : Int) fin (j : Int)) (encL (barE S i fin j)) := by
  intro m
  induction m with
  | zero =>
    intro j hj hij
    refine Ev.turn (fun k => ref12_barred.p0_succ k _ _ _ _ _) ?_
    unfold ref12_barred.e0
    rw [barE_end (by omega)]
    refine Ev.fls (dec_f (by omega)) ?_
    cases fin with
    | true => exact Ev.tru rfl Ev.pure
    | false => exact Ev.fls rfl Ev.pure
  | succ m ih =>
    intro j hj hij
    refine Ev.turn (fun k => ref12_barred.p0_succ k _ _ _ _ _) ?_
    unfold ref12_barred.e0
    rw [barE_step (by omega), btI_bt S (by omega), w1 (by omega), w1 (by omega)]
    have h15 : Ev (fun k => ref12_barred.p15 k ((0 : Int), (0 : Int), ByteArray.mk #[], (0 : Int), (0 : Int), (0 : Int)) (j : Int)) (encL (.bad 120 j)) := Ev.turn (fun k => ref12_barred.p15_succ k _ _) (rbad_ev j)
    refine Ev.tru (dec_t (by omega)) (Ev.tru (by simp; omega) ?_)
    by_cases c1 : bt S j = 124
    · rw [if_pos c1, Int.toNat_natCast, Int.toNat_natCast]
      exact Ev.tru (dec_t c1) (Ev.tru (by simp; omega) Ev.pure)
    · rw [if_neg c1]
      refine Ev.fls (dec_f c1) (Ev.tru (by simp; omega) (Ev.bind (rquot_ev (bt_in S j)) ?_))
      cases hq : quoB (bt S j) with
      | false =>
        rw [if_pos (.inl rfl)]
        exact Ev.tru rfl h15
      | true =>
        refine Ev.fls rfl (Ev.tru (by simp; omega) ?_)
        by_cases c2 : bt S j = 92
        · rw [if_pos (.inr c2)]
          exact Ev.tru (dec_t c2) h15
        · rw [if_neg (by rintro (h | h); cases h; exact c2 h)]
          exact Ev.fls (dec_f c2) (ih (j + 1) (by omega) (by omega))
theorem ext_snoc {a j : Nat} (h1 : a ≤ j) (h2 : j < S.size) : (S.extract a (j + 1)).data.toList = (S.extract a j).data.toList ++ [S.get! j] := by
  have e1 : S.extract a (j + 1) = S.extract a j ++ S.extract j (j + 1) := by
    rw [ByteArray.extract_append_extract, Nat.min_eq_left h1, Nat.max_eq_right (by omega)]
  have e2 : (S.extract j (j + 1)).data.toList = [S.get! j] := by
    have hl : (S.extract j (j + 1)).data.toList.length = 1 := by
      rw [Array.length_toList]
      show (S.extract j (j + 1)).size = 1
      rw [ext_size S (by omega)]; omega
    match hx : (S.extract j (j + 1)).data.toList, hl with
    | [x], _ =>
      have h3 : (S.extract j (j + 1)).get! 0 = x := by
        have h4 : 0 < (S.extract j (j + 1)).size := by rw [ext_size S (by omega)]; omega
        rw [get!_eq _ h4]
        show (S.extract j (j + 1)).data[0] = x
        have hg : (S.extract j (j + 1)).data.toList[0]? = some x := by rw [hx]; rfl
        rw [Array.getElem?_toList] at hg
        exact (Array.getElem?_eq_some_iff.1 hg).2
      have h5 : (S.extract j (j + 1)).get! 0 = S.get! j := by
        have h4 : 0 < (S.extract j (j + 1)).size := by rw [ext_size S (by omega)]; omega
        rw [get!_eq _ h4, get!_eq S h2, ByteArray.getElem_extract]
        rfl
      rw [← h3, h5]
  rw [e1, ByteArray.data_append, Array.toList_append, e2]
def toI (l : List UInt8) : List Int := l.map fun b => (b.toNat : Int)
theorem ofB_toI (l : List UInt8) : ofB (toI l) = ⟨l.toArray⟩ := by
  have key : ∀ (l : List UInt8) (s : ByteArray), (toI l).foldl (fun s n => s.push (UInt8.ofNat n.toNat)) s = ⟨s.data ++ l.toArray⟩ := by
    intro l
    induction l with
    | nil => intro s; simp [toI]
    | cons b l ih =>
      intro s
      simp only [toI, List.map_cons, List.foldl_cons]
      have := ih (s.push (UInt8.ofNat ((b.toNat : Int)).toNat))
      simp only [toI] at this
      rw [this]
      apply bytes_inj'
      simp [ByteArray.push]
  unfold ofB
  rw [key]
  apply bytes_inj'
  show (#[] ++ l.toArray).toList = _
  simp
theorem ble_bound {n : Nat} (h : n ≤ 4294967300) (m : Nat) (hm : m ≤ 100) : (Nat.ble (n * m) 140737488355328 && Nat.ble n 9223372036854775807) = true := by
  have : n * m ≤ 4294967300 * 100 := Nat.mul_le_mul h hm
  simp only [Bool.and_eq_true, Nat.ble_eq]
  omega
theorem rtext_loop (hS : S.size ≤ 4294967280) (hi : i < S.size) : ∀ m j, S.size - j ≤ m → i + 1 ≤ j → j ≤ S.size → ∀ acc : List Int, acc = toI (dq (S.extract (i + 1) j).data.toList) → wp (S.extract (i + 1) j).data.toList = true → acc.length + (i + 1) ≤ j →
    Ev (fun k => ref12_quoted.p0 k ((0 : Int), (0 : Int), ByteArray.mk #[], (0 : Int), (0 : Int), (0 : Int)) acc S (i : Int) fin (j : Int)) (encL (textE S i fin j)) := by
  intro m
  have hend : ∀ j, ¬ j < S.size → ∀ acc : List Int, Ev (fun k => ref12_quoted.p0 k ((0 : Int), (0 : Int), ByteArray.mk #[], (0 : Int), (0 : Int), (0 : Int)) acc S (i : Int) fin (j : Int)) (encL (textE S i fin j)) := by
    intro j hj acc
    refine Ev.turn (fun k => ref12_quoted.p0_succ k _ _ _ _ _ _) ?_
    unfold ref12_quoted.e0
    rw [textE_end hj]
    refine Ev.fls (dec_f (by omega)) ?_
    cases fin with
    | true => exact Ev.tru rfl Ev.pure
    | false => exact Ev.fls rfl Ev.pure
  induction m with
  | zero => intro j hm _ _ acc _ _ _; exact hend j (by omega) acc
  | succ m ih =>
    intro j hm hij hj acc hacc hwp hlen
    by_cases hlt : j < S.size
    · refine Ev.turn (fun k => ref12_quoted.p0_succ k _ _ _ _ _ _) ?_
      unfold ref12_quoted.e0
      rw [btI_bt S hlt, w1 (by omega), w2 (by omega)]
      refine Ev.tru (dec_t (by omega)) (Ev.tru (by simp; omega) ?_)
      by_cases c1 : bt S j = 34
      · rw [textE_quote hlt c1]
        refine Ev.tru (dec_t c1) ?_
        have h17 : ¬ (j + 1 < S.size ∧ bt S (j + 1) = 34) → Ev (fun k => ref12_quoted.p17 k ((0 : Int), (0 : Int), ByteArray.mk #[], (0 : Int), (0 : Int), (0 : Int)) acc S fin (j : Int)) (encL (if j + 1 = S.size ∧ fin = false then .opn else .whl 9 (txt S (i + 1) j) (j + 1))) := by
          intro _
          refine Ev.turn (fun k => ref12_quoted.p17_succ k _ _ _ _ _) ?_
          unfold ref12_quoted.e17
          rw [w1 (by omega)]
          have := unless_at (fin := fin) S 9 (ofB acc) (j + 1)
          rw [show ofB acc = txt S (i + 1) j by rw [hacc, ofB_toI]; rfl] at this ⊢
          exact this
        by_cases c2 : j + 1 < S.size
        · rw [btI_bt S c2]
          refine Ev.tru (dec_t (by omega)) (Ev.tru (by simp; omega) ?_)
          by_cases c3 : bt S (j + 1) = 34
          · rw [if_pos ⟨c2, c3⟩]
            refine Ev.tru (dec_t c3) (Ev.tru (by simpa using ble_bound (n := acc.length + 1) (by omega) 1 (by omega)) ?_)
            have hb1 : S.get! j = 34 := by
              have : (S.get! j).toNat = 34 := by unfold bt at c1; omega
              exact UInt8.toNat_inj.1 this
            have hb2 : S.get! (j + 1) = 34 := by
              have : (S.get! (j + 1)).toNat = 34 := by unfold bt at c3; omega
              exact UInt8.toNat_inj.1 this
            have he : (S.extract (i + 1) (j + 2)).data.toList = (S.extract (i + 1) j).data.toList ++ [34, 34] := by
              rw [ext_snoc (j := j + 1) (by omega) c2, ext_snoc (by omega) hlt, hb1, hb2]
              simp
            refine ih (j + 2) (by omega) (by omega) (by omega) _ ?_ ?_ ?_
            · rw [he, dq_append _ _ _ (Nat.le_refl _) hwp, hacc]
              simp [toI, dq]
            · rw [he]
              exact wp_append _ _ _ (Nat.le_refl _) hwp rfl
            · simp; omega
          · rw [if_neg (fun h => c3 h.2)]
            exact Ev.fls (dec_f c3) (h17 fun h => c3 h.2)
        · rw [if_neg (fun h => c2 h.1)]
          exact Ev.fls (dec_f (by omega)) (h17 fun h => c2 h.1)
      · rw [textE_step hlt c1]
        refine Ev.fls (dec_f c1) (Ev.tru (by simp; omega) (Ev.bind (rquot_ev (bt_in S j)) ?_))
        cases hq : quoB (bt S j) with
        | false =>
          rw [if_pos rfl]
          exact Ev.tru rfl (rbad_ev j)
        | true =>
          rw [if_neg (by decide)]
          refine Ev.fls rfl (Ev.tru (by simp; omega) (Ev.tru (by simpa using ble_bound (n := acc.length + 1) (by omega) 1 (by omega)) ?_))
          have hb : S.get! j ≠ 34 := fun h => c1 (by unfold bt; rw [h]; rfl)
          have he := ext_snoc (S := S) (a := i + 1) (j := j) (by omega) hlt
          refine ih (j + 1) (by omega) (by omega) (by omega) _ ?_ ?_ ?_
          · rw [he, dq_append _ _ _ (Nat.le_refl _) hwp, hacc, dq_cons hb]
            simp [toI, dq, bt]
          · rw [he]
            exact wp_append _ _ _ (Nat.le_refl _) hwp (by rw [wp_cons hb]; rfl)
          · simp; omega
    · exact hend j hlt acc
theorem rtext_ev (hS : S.size ≤ 4294967280) (hi : i < S.size) : Ev (fun k => ref12_quoted.f k S (i : Int) fin) (encL (textE S i fin (i + 1))) := by
  unfold ref12_quoted.f ref12_quoted.e
  rw [w1 (by omega)]
  have he : (S.extract (i + 1) (i + 1)).data.toList = [] := by
    apply List.eq_nil_of_length_eq_zero
    rw [Array.length_toList]
    show (S.extract (i + 1) (i + 1)).size = 0
    rw [ext_size S (by omega)]; omega
  exact rtext_loop hS hi _ (i + 1) (Nat.le_refl _) (Nat.le_refl _) (by omega) [] (by rw [he]; rfl) (by rw [he]; rfl) (by simp)
theorem keyword_ev (hS : S.size ≤ 4294967280) (hi : i < S.size) : Ev (fun k => ref12_keyword.f k S (i : Int) fin) (encL (wordL S i fin 4 (i + 1))) := by
  have h9 : Ev (fun k => ref12_keyword.p9 k ((0 : Int), (0 : Int), ByteArray.mk #[], (0 : Int), (0 : Int), (0 : Int)) (i : Int)) (encL (.bad 120 i)) := Ev.turn (fun k => ref12_keyword.p9_succ k _ _) (rbad_ev i)
  unfold ref12_keyword.f ref12_keyword.e wordL wordE
  rw [w1 (by omega)]
  by_cases c : i + 1 = S.size
  · rw [runE_end sgB S (by omega), if_neg (fun h => by omega)]
    refine Ev.tru (dec_t (by omega)) ?_
    cases fin with
    | false =>
      rw [if_pos ⟨c, rfl⟩]
      exact Ev.tru rfl Ev.pure
    | true =>
      rw [if_neg (by simp), if_pos rfl]
      refine Ev.fls rfl (Ev.turn (fun k => ref12_keyword.p7_succ k _ _ _ _) ?_)
      unfold ref12_keyword.e7
      rw [w1 (by omega)]
      exact Ev.tru (dec_t (by omega)) h9
  · refine Ev.fls (dec_f (by omega)) (Ev.turn (fun k => ref12_keyword.p7_succ k _ _ _ _) ?_)
    unfold ref12_keyword.e7
    rw [w1 (by omega), btI_bt S (by omega)]
    refine Ev.fls (dec_f (by omega)) (Ev.tru (by simp; omega) (Ev.bind (symbolByte_ev (bt_in S _)) ?_))
    cases hs : sgB (bt S (i + 1)) with
    | false =>
      rw [runE_no (by omega) hs, if_neg (fun h => by omega), if_neg (fun h => by omega), if_pos rfl]
      exact Ev.tru rfl h9
    | true =>
      refine Ev.fls rfl (Ev.tru (by simp; omega) (Ev.bind (rdigit_ev (bt_in S _)) ?_))
      have hgt : i + 1 < runE sgB S (i + 1) := by
        rw [runE_yes (by omega) hs]
        have := runE_le sgB S (i + 1 + 1)
        omega
      have hle := runE_size sgB S (i := i + 1) (by omega)
      cases hd : digB (bt S (i + 1)) with
      | true =>
        rw [if_pos ⟨hgt, rfl⟩]
        exact Ev.tru rfl h9
      | false =>
        rw [if_neg (by simp)]
        refine Ev.fls rfl (Ev.bind (syms_ev hS (by omega)) ?_)
        generalize runE sgB S (i + 1) = n at *
        rw [Int.toNat_natCast, Int.toNat_natCast]
        refine Ev.tru (by simp; omega) ?_
        rw [if_neg (show ¬ n = i + 1 by omega)]
        exact unless_at (fin := fin) S 4 (S.extract (i + 1) n) n
theorem rsharp_ev (hS : S.size ≤ 4294967280) (hi : i < S.size) : Ev (fun k => ref12_sharp.f k S (i : Int) fin) (encL (sharpL S i fin)) := by
  have h9 : Ev (fun k => ref12_sharp.p9 k ((0 : Int), (0 : Int), ByteArray.mk #[], (0 : Int), (0 : Int), (0 : Int)) (i : Int)) (encL (.bad 120 i)) := Ev.turn (fun k => ref12_sharp.p9_succ k _ _) (rbad_ev i)
  have h19 : Ev (fun k => ref12_sharp.p19 k ((0 : Int), (0 : Int), ByteArray.mk #[], (0 : Int), (0 : Int), (0 : Int)) (i : Int)) (encL (.bad 120 i)) := Ev.turn (fun k => ref12_sharp.p19_succ k _ _) (rbad_ev i)
  have h27 : ∀ (kd : Int) (e : Nat), i + 2 ≤ e → e ≤ S.size → Ev (fun k => ref12_sharp.p27 k ((0 : Int), (0 : Int), ByteArray.mk #[], (0 : Int), (0 : Int), (0 : Int)) S (i : Int) (e : Int) kd) (encL (.whl kd (S.extract (i + 2) e) e)) := by
    intro kd e h1 h2
    refine Ev.turn (fun k => ref12_sharp.p27_succ k _ _ _ _ _) ?_
    unfold ref12_sharp.e27
    rw [w2 (by omega), Int.toNat_natCast, Int.toNat_natCast]
    exact Ev.tru (by simp; omega) Ev.pure
  have h21 : ∀ (kd : Int) (e : Nat), i + 2 ≤ e → e ≤ S.size → (kd = if bt S (i + 1) = 98 then 8 else 7) → Ev (fun k => ref12_sharp.p21 k ((0 : Int), (0 : Int), ByteArray.mk #[], (0 : Int), (0 : Int), (0 : Int)) S (i : Int) (e : Int)) (encL (.whl kd (S.extract (i + 2) e) e)) := by
    intro kd e h1 h2 hkd
    refine Ev.turn (fun k => ref12_sharp.p21_succ k _ _ _ _) ?_
    unfold ref12_sharp.e21
    rw [w1 (by omega), btI_bt S (by omega)]
    refine Ev.tru (by simp; omega) ?_
    by_cases c : bt S (i + 1) = 98
    · rw [if_pos c] at hkd
      subst hkd
      exact Ev.tru (dec_t c) (h27 8 e h1 h2)
    · rw [if_neg c] at hkd
      subst hkd
      exact Ev.fls (dec_f c) (h27 7 e h1 h2)
  have h17 : ∀ (kd : Int) (e : Nat), i + 2 ≤ e → e ≤ S.size → (kd = if bt S (i + 1) = 98 then 8 else 7) → ¬ (e = S.size ∧ fin = false) → Ev (fun k => ref12_sharp.p17 k ((0 : Int), (0 : Int), ByteArray.mk #[], (0 : Int), (0 : Int), (0 : Int)) S (i : Int) (e : Int)) (encL (sharpE S i fin kd e)) := by
    intro kd e h1 h2 hkd hns
    refine Ev.turn (fun k => ref12_sharp.p17_succ k _ _ _ _) ?_
    unfold ref12_sharp.e17 sharpE endsL
    rw [w2 (by omega)]
    by_cases c : e = i + 2
    · rw [if_pos c, if_neg (fun h => hns ⟨by omega, h.2⟩)]
      exact Ev.tru (dec_t (by omega)) h19
    · rw [if_neg c, if_neg hns]
      refine Ev.fls (dec_f (by omega)) ?_
      by_cases c2 : e < S.size
      · rw [btI_bt S c2]
        refine Ev.tru (dec_t (by omega)) (Ev.tru (by simp; omega) (Ev.bind (symbolByte_ev (bt_in S e)) ?_))
        cases hs : sgB (bt S e) with
        | true =>
          rw [if_pos ⟨c2, rfl⟩]
          exact Ev.tru rfl h19
        | false =>
          rw [if_neg (by simp)]
          exact Ev.fls rfl (h21 kd e h1 h2 hkd)
      · rw [if_neg (fun h => c2 h.1)]
        exact Ev.fls (dec_f (by omega)) (h21 kd e h1 h2 hkd)
  have h11 : ∀ (kd : Int), (kd = if bt S (i + 1) = 98 then 8 else 7) → i + 1 < S.size → Ev (fun k => ref12_sharp.p11 k ((0 : Int), (0 : Int), ByteArray.mk #[], (0 : Int), (0 : Int), (0 : Int)) S (i : Int) fin) (encL (sharpE S i fin kd (runE (kdB (bt S (i + 1))) S (i + 2)))) := by
    intro kd hkd hlt
    refine Ev.turn (fun k => ref12_sharp.p11_succ k _ _ _ _) ?_
    unfold ref12_sharp.e11
    rw [w1 (by omega), w2 (by omega), btI_bt S (by omega)]
    have hge := runE_le (kdB (bt S (i + 1))) S (i + 2)
    have hle := runE_size (kdB (bt S (i + 1))) S (i := i + 2) (by omega)
    refine Ev.tru (by simp; omega) (Ev.bind (digs_ev hS _ (by omega)) ?_)
    generalize runE (kdB (bt S (i + 1))) S (i + 2) = e at *
    by_cases c : e = S.size
    · refine Ev.tru (dec_t (by omega)) ?_
      cases fin with
      | false =>
        have : sharpE S i false kd e = .opn := by
          unfold sharpE endsL
          by_cases c2 : e = i + 2
          · rw [if_pos c2, if_pos ⟨by omega, rfl⟩]
          · rw [if_neg c2, if_pos ⟨c, rfl⟩]
        rw [this]
        exact Ev.tru rfl Ev.pure
      | true => exact Ev.fls rfl (h17 kd e hge hle hkd (by simp))
    · exact Ev.fls (dec_f (by omega)) (h17 kd e hge hle hkd (fun h => c h.1))
  unfold ref12_sharp.f ref12_sharp.e sharpL
  rw [w1 (by omega)]
  by_cases c : i + 1 = S.size
  · rw [if_pos c]
    refine Ev.tru (dec_t (by omega)) ?_
    cases fin with
    | false => exact Ev.tru rfl Ev.pure
    | true =>
      refine Ev.fls rfl (Ev.turn (fun k => ref12_sharp.p7_succ k _ _ _ _) ?_)
      unfold ref12_sharp.e7
      rw [w1 (by omega)]
      exact Ev.tru (dec_t (by omega)) h9
  · rw [if_neg c]
    refine Ev.fls (dec_f (by omega)) (Ev.turn (fun k => ref12_sharp.p7_succ k _ _ _ _) ?_)
    unfold ref12_sharp.e7
    rw [w1 (by omega), btI_bt S (by omega)]
    refine Ev.fls (dec_f (by omega)) (Ev.tru (by simp; omega) ?_)
    by_cases c1 : bt S (i + 1) = 120
    · rw [if_pos c1]
      have := h11 7 (by rw [if_neg (by omega)]) (by omega)
      rw [c1, kind_x] at this
      exact Ev.fls (by rw [dec_t c1]; rfl) this
    · rw [if_neg c1]
      refine Ev.tru (by rw [dec_f c1]; rfl) (Ev.tru (by simp; omega) ?_)
      by_cases c2 : bt S (i + 1) = 98
      · rw [if_pos c2]
        have := h11 8 (by rw [if_pos c2]) (by omega)
        rw [c2, kind_b] at this
        exact Ev.fls (by rw [dec_t c2]; rfl) this
      · rw [if_neg c2]
        exact Ev.tru (by rw [dec_f c2]; rfl) h9
theorem rnumber_ev (hS : S.size ≤ 4294967280) (hi : i < S.size) : Ev (fun k => ref12_number.f k S (i : Int) fin) (encL (numL S i fin)) := by
  have h31 : ∀ (kd : Int) (e : Nat), i ≤ e → e ≤ S.size → ¬ (e < S.size ∧ sgB (bt S e) = true) → Ev (fun k => ref12_number.p31 k ((0 : Int), (0 : Int), ByteArray.mk #[], (0 : Int), (0 : Int), (0 : Int)) S (i : Int) fin (e : Int) kd) (encL (endsL S i fin kd i e)) := by
    intro kd e h1 h2 hns
    refine Ev.turn (fun k => ref12_number.p31_succ k _ _ _ _ _ _) ?_
    unfold ref12_number.e31 endsL
    rw [Int.toNat_natCast, Int.toNat_natCast, if_neg hns]
    refine Ev.tru (by simp; omega) ?_
    exact unless_at (fin := fin) S kd (S.extract i e) e
  have h27 : ∀ (kd : Int) (e : Nat), i ≤ e → e ≤ S.size → Ev (fun k => ref12_number.p27 k ((0 : Int), (0 : Int), ByteArray.mk #[], (0 : Int), (0 : Int), (0 : Int)) S (i : Int) fin (e : Int) kd) (encL (endsL S i fin kd i e)) := by
    intro kd e h1 h2
    refine Ev.turn (fun k => ref12_number.p27_succ k _ _ _ _ _ _) ?_
    unfold ref12_number.e27
    by_cases c : e < S.size
    · rw [btI_bt S c]
      refine Ev.tru (dec_t (by omega)) (Ev.tru (by simp; omega) (Ev.bind (symbolByte_ev (bt_in S e)) ?_))
      cases hs : sgB (bt S e) with
      | true =>
        have : endsL S i fin kd i e = .bad 120 i := by
          unfold endsL
          rw [if_neg (fun h => by omega), if_pos ⟨c, hs⟩]
        rw [this]
        exact Ev.tru rfl (rbad_ev i)
      | false => exact Ev.fls rfl (h31 kd e h1 h2 (by rw [hs]; simp))
    · exact Ev.fls (dec_f (by omega)) (h31 kd e h1 h2 (fun h => c h.1))
  have hge := runE_le digB S i
  have hle := runE_size digB S (Nat.le_of_lt hi)
  have hdig : ∀ {j : Nat}, j ≤ S.size → Ev (fun k => ref12_digitsEnd.f k S (j : Int) (100 : Int)) ((runE digB S j : Nat) : Int) := fun h => by
    have := digs_ev hS 100 h
    rw [kind_d] at this
    exact this
  have hd := hdig (Nat.le_of_lt hi)
  unfold ref12_number.f ref12_number.e numL
  refine Ev.bind hd ?_
  generalize runE digB S i = n at *
  have h9 : Ev (fun k => ref12_number.p9 k ((0 : Int), (0 : Int), ByteArray.mk #[], (0 : Int), (0 : Int), (0 : Int)) S (i : Int) fin (n : Int)) (encL (numE S i fin n)) := by
    refine Ev.turn (fun k => ref12_number.p9_succ k _ _ _ _ _) ?_
    unfold ref12_number.e9 numE
    by_cases c : n < S.size
    · rw [btI_bt S c, w1 (by omega)]
      refine Ev.tru (dec_t (by omega)) (Ev.tru (by simp; omega) ?_)
      by_cases c2 : bt S n = 46
      · rw [if_pos ⟨c, c2⟩]
        refine Ev.tru (dec_t c2) ?_
        have hge2 := runE_le digB S (n + 1)
        have hle2 := runE_size digB S (i := n + 1) (by omega)
        have hd2 := hdig (j := n + 1) (by omega)
        have h19 : ¬ (n + 1 = S.size ∧ fin = false) → Ev (fun k => ref12_number.p19 k ((0 : Int), (0 : Int), ByteArray.mk #[], (0 : Int), (0 : Int), (0 : Int)) S (i : Int) fin (n : Int) (6 : Int)) (encL (if runE digB S (n + 1) = n + 1 then (if n + 1 = S.size ∧ fin = false then .opn else .bad 120 i) else endsL S i fin 6 i (runE digB S (n + 1)))) := by
          intro hns
          refine Ev.turn (fun k => ref12_number.p19_succ k _ _ _ _ _ _) ?_
          unfold ref12_number.e19
          rw [w1 (by omega), if_neg hns]
          refine Ev.bind hd2 ?_
          generalize runE digB S (n + 1) = f at *
          by_cases c3 : f = n + 1
          · rw [if_pos c3]
            exact Ev.tru (dec_t (by omega)) (rbad_ev i)
          · rw [if_neg c3]
            exact Ev.fls (dec_f (by omega)) (h27 6 f (by omega) hle2)
        by_cases c3 : n + 1 = S.size
        · refine Ev.tru (dec_t (by omega)) ?_
          cases fin with
          | false =>
            rw [if_pos (runE_end digB S (by omega)), if_pos ⟨c3, rfl⟩]
            exact Ev.tru rfl Ev.pure
          | true => exact Ev.fls rfl (h19 (by simp))
        · exact Ev.fls (dec_f (by omega)) (h19 (fun h => c3 h.1))
      · rw [if_neg (fun h => c2 h.2)]
        exact Ev.fls (dec_f c2) (h27 5 n hge hle)
    · rw [if_neg (fun h => c h.1)]
      exact Ev.fls (dec_f (by omega)) (h27 5 n hge hle)
  rw [btI_bt S hi, w1 (by omega)]
  refine Ev.tru (by simp; omega) ?_
  by_cases c : bt S i = 48
  · refine Ev.tru (dec_t c) ?_
    by_cases c2 : i + 1 < n
    · rw [if_pos ⟨c2, c⟩]
      exact Ev.tru (dec_t (by omega)) (rbad_ev i)
    · rw [if_neg (fun h => c2 h.1)]
      exact Ev.fls (dec_f (by omega)) h9
  · rw [if_neg (fun h => c h.2)]
    exact Ev.fls (dec_f c) h9
theorem Ev.pass {α : Type} {f : Nat → Option α} {r : α} (h : Ev f r) : Ev (fun k => Option.bind (f k) fun y => Option.some y) r := Ev.bind h Ev.pure
theorem look_ev (hS : S.size ≤ 4294967280) (hi : i < S.size) : Ev (fun k => ref12_look.f k S (i : Int) fin) (encL (lk S i fin)) := by
  unfold ref12_look.f ref12_look.e lk
  rw [btI_bt S hi, w1 (by omega)]
  refine Ev.tru (by simp; omega) ?_
  by_cases c1 : bt S i = 40
  · rw [if_pos c1]
    exact Ev.tru (dec_t c1) Ev.pure
  rw [if_neg c1]
  refine Ev.fls (dec_f c1) ?_
  by_cases c2 : bt S i = 41
  · rw [if_pos c2]
    exact Ev.tru (dec_t c2) Ev.pure
  rw [if_neg c2]
  refine Ev.fls (dec_f c2) ?_
  by_cases c4 : bt S i = 34
  · rw [if_neg (show ¬ bt S i = 124 by omega), if_pos c4]
    exact Ev.tru (dec_t c4) (Ev.pass (rtext_ev hS hi))
  refine Ev.fls (dec_f c4) ?_
  by_cases c3 : bt S i = 124
  · rw [if_pos c3]
    refine Ev.tru (dec_t c3) (Ev.pass ?_)
    unfold ref12_barred.f ref12_barred.e
    rw [w1 (by omega)]
    exact rbar_loop hS hi (S.size - (i + 1)) (i + 1) (by omega) (Nat.le_refl _)
  rw [if_neg c3, if_neg c4]
  refine Ev.fls (dec_f c3) ?_
  by_cases c6 : bt S i = 58
  · rw [if_neg (show ¬ bt S i = 35 by omega), if_pos c6]
    exact Ev.tru (dec_t c6) (Ev.pass (keyword_ev hS hi))
  refine Ev.fls (dec_f c6) ?_
  by_cases c5 : bt S i = 35
  · rw [if_pos c5]
    exact Ev.tru (dec_t c5) (Ev.pass (rsharp_ev hS hi))
  rw [if_neg c5, if_neg c6]
  refine Ev.fls (dec_f c5) (Ev.bind (rdigit_ev (bt_in S i)) ?_)
  cases c7 : digB (bt S i) with
  | true =>
    rw [if_pos rfl]
    exact Ev.tru rfl (Ev.pass (rnumber_ev hS hi))
  | false =>
    rw [if_neg (by decide)]
    refine Ev.fls rfl (Ev.bind (symbolByte_ev (bt_in S i)) ?_)
    cases c8 : sgB (bt S i) with
    | false =>
      rw [if_neg (by decide)]
      exact Ev.fls rfl (rbad_ev i)
    | true =>
      rw [if_pos rfl]
      refine Ev.tru rfl (Ev.bind (syms_ev hS (Nat.le_of_lt hi)) ?_)
      have hgt : i < runE sgB S i := by
        rw [runE_yes hi c8]
        have := runE_le sgB S (i + 1)
        omega
      have hle := runE_size sgB S (Nat.le_of_lt hi)
      unfold wordL wordE
      rw [c7]
      generalize runE sgB S i = n at *
      rw [Int.toNat_natCast, Int.toNat_natCast, if_neg (by simp), if_neg (show ¬ n = i by omega)]
      refine Ev.tru (by simp; omega) ?_
      exact unless_at (fin := fin) S 3 (S.extract i n) n
end Go.FK


/- Tokens: gaps, places; what begins at a place ends behind it. -/
namespace Go.FK
variable {S : ByteArray}
def gapS (S : ByteArray) (c : Bool) (i : Nat) : Nat × Bool :=
  if h : i < S.size then
    (if hc : c = true then (if bt S i = 10 ∨ bt S i = 13 then gapS S false i else gapS S true (i + 1))
    else if bt S i = 59 then gapS S true (i + 1) else if blkB (bt S i) = true then gapS S false (i + 1) else (i, false))
  else (i, c)
termination_by 2 * (S.size - i) + (if c = true then 1 else 0)
decreasing_by
  · subst hc; simp
  · subst hc; simp; omega
  · simp [hc]; omega
  · simp [hc]; omega
theorem gapS_end {c : Bool} {i : Nat} (h : ¬ i < S.size) : gapS S c i = (i, c) := by rw [gapS, dif_neg h]
theorem gapS_line {i : Nat} (h : i < S.size) (hb : bt S i = 10 ∨ bt S i = 13) : gapS S true i = gapS S false i := by rw [gapS, dif_pos h, dif_pos rfl, if_pos hb]
theorem gapS_in {i : Nat} (h : i < S.size) (hb : ¬ (bt S i = 10 ∨ bt S i = 13)) : gapS S true i = gapS S true (i + 1) := by rw [gapS, dif_pos h, dif_pos rfl, if_neg hb]
theorem gapS_semi {i : Nat} (h : i < S.size) (hb : bt S i = 59) : gapS S false i = gapS S true (i + 1) := by rw [gapS, dif_pos h, dif_neg (by decide), if_pos hb]
theorem gapS_blank {i : Nat} (h : i < S.size) (h0 : bt S i ≠ 59) (hb : blkB (bt S i) = true) : gapS S false i = gapS S false (i + 1) := by rw [gapS, dif_pos h, dif_neg (by decide), if_neg h0, if_pos hb]
theorem gapS_stop {i : Nat} (h : i < S.size) (h0 : bt S i ≠ 59) (hb : blkB (bt S i) = false) : gapS S false i = (i, false) := by rw [gapS, dif_pos h, dif_neg (by decide), if_neg h0, if_neg (by rw [hb]; decide)]
theorem gapS_ind {P : Bool → Nat → Nat × Bool → Prop} (hend : ∀ c i, ¬ i < S.size → P c i (i, c)) (hline : ∀ i r, i < S.size → (bt S i = 10 ∨ bt S i = 13) → P false i r → P true i r) (hin : ∀ i r, i < S.size → ¬ (bt S i = 10 ∨ bt S i = 13) → P true (i + 1) r → P true i r)
    (hsemi : ∀ i r, i < S.size → bt S i = 59 → P true (i + 1) r → P false i r) (hblank : ∀ i r, i < S.size → bt S i ≠ 59 → blkB (bt S i) = true → P false (i + 1) r → P false i r) (hstop : ∀ i, i < S.size → bt S i ≠ 59 → blkB (bt S i) = false → P false i (i, false)) :
    ∀ m c i, 2 * (S.size - i) + (if c = true then 1 else 0) ≤ m → P c i (gapS S c i) := by
  intro m
  induction m with
  | zero =>
    intro c i hm
    rw [gapS_end (by omega)]
    exact hend c i (by omega)
  | succ m ih =>
    intro c i hm
    by_cases h : i < S.size
    · cases c with
      | true =>
        simp only [if_true] at hm
        by_cases hb : bt S i = 10 ∨ bt S i = 13
        · rw [gapS_line h hb]
          exact hline i _ h hb (ih false i (by simp; omega))
        · rw [gapS_in h hb]
          exact hin i _ h hb (ih true (i + 1) (by simp; omega))
      | false =>
        by_cases h0 : bt S i = 59
        · rw [gapS_semi h h0]
          exact hsemi i _ h h0 (ih true (i + 1) (by simp; omega))
        · cases hb : blkB (bt S i) with
          | true =>
            rw [gapS_blank h h0 hb]
            exact hblank i _ h h0 hb (ih false (i + 1) (by simp; omega))
          | false =>
            rw [gapS_stop h h0 hb]
            exact hstop i h h0 hb
    · rw [gapS_end h]
      exact hend c i h
theorem gapS_ge (S : ByteArray) (c : Bool) (i : Nat) : i ≤ (gapS S c i).1 ∧ (i ≤ S.size → (gapS S c i).1 ≤ S.size) :=
  gapS_ind (P := fun _ i r => i ≤ r.1 ∧ (i ≤ S.size → r.1 ≤ S.size)) (fun _ i _ => ⟨Nat.le_refl _, fun h => h⟩) (fun _ _ _ _ h => h) (fun _ _ _ _ h => ⟨by omega, fun _ => h.2 (by omega)⟩) (fun _ _ _ _ h => ⟨by omega, fun _ => h.2 (by omega)⟩) (fun _ _ _ _ _ h => ⟨by omega, fun _ => h.2 (by omega)⟩)
    (fun i _ _ _ => ⟨Nat.le_refl _, fun h => h⟩) _ c i (Nat.le_refl _)
theorem gapS_at (S : ByteArray) (c : Bool) (i : Nat) : (gapS S c i).1 < S.size → (gapS S c i).2 = false ∧ bt S (gapS S c i).1 ≠ 59 ∧ blkB (bt S (gapS S c i).1) = false :=
  gapS_ind (P := fun _ _ r => r.1 < S.size → r.2 = false ∧ bt S r.1 ≠ 59 ∧ blkB (bt S r.1) = false) (fun _ _ h h' => absurd h' h) (fun _ _ _ _ h => h) (fun _ _ _ _ h => h) (fun _ _ _ _ h => h) (fun _ _ _ _ _ h => h)
    (fun _ _ h0 hb _ => ⟨rfl, h0, hb⟩) _ c i (Nat.le_refl _)
def lc (S : ByteArray) : Nat → Nat × Nat
  | 0 => (1, 1)
  | i + 1 => if bt S i = 10 then ((lc S i).1 + 1, 1) else ((lc S i).1, (lc S i).2 + 1)
theorem lc_le (S : ByteArray) : ∀ i, (lc S i).1 ≤ i + 1 ∧ (lc S i).2 ≤ i + 1
  | 0 => ⟨Nat.le_refl _, Nat.le_refl _⟩
  | i + 1 => by
    have := lc_le S i
    unfold lc
    split
    · exact ⟨by simp only; omega, by simp only; omega⟩
    · exact ⟨by simp only; omega, by simp only; omega⟩
theorem lc_line {i : Nat} (h : bt S i = 10) : lc S (i + 1) = ((lc S i).1 + 1, 1) := by rw [lc, if_pos h]
theorem lc_in {i : Nat} (h : bt S i ≠ 10) : lc S (i + 1) = ((lc S i).1, (lc S i).2 + 1) := by rw [lc, if_neg h]
abbrev TK : Type := Int × ByteArray × Int × Int × Int × Int
abbrev SC : Type := Int × ByteArray × Bool × TK × Int
def plc (S : ByteArray) (i : Nat) : TK := (0, ByteArray.mk #[], (i : Int), (i : Int), ((lc S i).1 : Int), ((lc S i).2 : Int))
def scn (S : ByteArray) (st : Int) (i : Nat) (c : Bool) (er : Int) : SC := (st, rst S i, c, plc S i, er)
theorem pass_loop (hS : S.size ≤ 4294967280) {i n : Nat} (hn : i + n ≤ S.size) (st : Int) (c : Bool) (er : Int) : ∀ m j, m + j = n →
    Ev (fun k => tokens_Scanner_pass.p0 k (st, rst S i, c, ((0 : Int), ByteArray.mk #[], (i : Int), (i : Int), ((lc S (i + j)).1 : Int), ((lc S (i + j)).2 : Int)), er) (n : Int) (n : Int) (j : Int)) (scn S st (i + n) c er) := by
  intro m
  induction m with
  | zero =>
    intro j hj
    obtain rfl : j = n := by omega
    refine Ev.turn (fun k => tokens_Scanner_pass.p0_succ k _ _ _ _) ?_
    unfold tokens_Scanner_pass.e0
    dsimp only
    have e1 : IntKind.i64.wrap ((i : Int) + (j : Int)) = ((i + j : Nat) : Int) := by rw [wr (by omega) (by omega)]; omega
    rw [e1, Int.toNat_natCast, Int.toNat_natCast, rst_rst S hn]
    refine Ev.fls (dec_f (by omega)) (Ev.tru (by rw [rst_size]; simp; omega) Ev.pure)
  | succ m ih =>
    intro j hj
    have hl := lc_le S (i + j)
    refine Ev.turn (fun k => tokens_Scanner_pass.p0_succ k _ _ _ _) ?_
    unfold tokens_Scanner_pass.e0
    dsimp only
    rw [rst_btI S (by omega), w1 (by omega), w1 (by omega)]
    refine Ev.tru (dec_t (by omega)) (Ev.tru (by rw [rst_size]; simp; omega) ?_)
    have := ih (j + 1) (by omega)
    rw [show i + (j + 1) = i + j + 1 by omega] at this
    by_cases cc : bt S (i + j) = 10
    · rw [lc_line cc] at this
      refine Ev.tru (dec_t cc) (Ev.turn (fun k => tokens_Scanner_pass.p15_succ k _ _ _ _) ?_)
      unfold tokens_Scanner_pass.e15
      rw [w1 (by omega)]
      exact this
    · rw [lc_in cc] at this
      refine Ev.fls (dec_f cc) (Ev.turn (fun k => tokens_Scanner_pass.p15_succ k _ _ _ _) ?_)
      unfold tokens_Scanner_pass.e15
      rw [w1 (by omega)]
      exact this
theorem pass_ev (hS : S.size ≤ 4294967280) {i n : Nat} (hn : i + n ≤ S.size) (st : Int) (c : Bool) (er : Int) : Ev (fun k => tokens_Scanner_pass.f k (scn S st i c er) (n : Int)) (scn S st (i + n) c er) :=
  pass_loop hS hn st c er n 0 (by omega)
theorem skip_ev (hS : S.size ≤ 4294967280) (st er : Int) : ∀ m c i, 2 * (S.size - i) + (if c = true then 1 else 0) ≤ m → i ≤ S.size → Ev (fun k => tokens_Scanner_skip.p0 k (scn S st i c er)) (scn S st (gapS S c i).1 (gapS S c i).2 er) := by
  intro m
  have hend : ∀ c i, ¬ i < S.size → Ev (fun k => tokens_Scanner_skip.p0 k (scn S st i c er)) (scn S st (gapS S c i).1 (gapS S c i).2 er) := by
    intro c i h
    refine Ev.turn (fun k => tokens_Scanner_skip.p0_succ k _) ?_
    unfold tokens_Scanner_skip.e0 scn
    dsimp only
    rw [empty_beq, rst_size, gapS_end h]
    exact Ev.fls (by rw [dec_t (by omega)]; rfl) Ev.pure
  induction m with
  | zero => intro c i hm hi; exact hend c i (by omega)
  | succ m ih =>
    intro c i hm hi
    by_cases h : i < S.size
    · have h17 : ∀ c2, (i + 1 ≤ S.size → Ev (fun k => tokens_Scanner_skip.p0 k (scn S st (i + 1) c2 er)) (scn S st (gapS S c i).1 (gapS S c i).2 er)) → Ev (fun k => tokens_Scanner_skip.p17 k (scn S st i c2 er)) (scn S st (gapS S c i).1 (gapS S c i).2 er) := by
        intro c2 hx
        refine Ev.turn (fun k => tokens_Scanner_skip.p17_succ k _) ?_
        unfold tokens_Scanner_skip.e17
        exact Ev.bind (pass_ev hS (i := i) (n := 1) (by omega) st c2 er) (hx (by omega))
      refine Ev.turn (fun k => tokens_Scanner_skip.p0_succ k _) ?_
      unfold tokens_Scanner_skip.e0
      rw [show (scn S st i c er).2.1 = rst S i from rfl, show (scn S st i c er).2.2.1 = c from rfl, empty_beq, rst_bt0 S h]
      refine Ev.tru (by rw [rst_size, dec_f (by omega)]; rfl) (Ev.tru (by rw [rst_size]; exact dec_t (by omega)) ?_)
      cases c with
      | true =>
        simp only [if_true] at hm
        refine Ev.tru rfl ?_
        by_cases hb : bt S i = 10 ∨ bt S i = 13
        · have h7 : Ev (fun k => tokens_Scanner_skip.p7 k (scn S st i true er) (bt S i)) (scn S st (gapS S true i).1 (gapS S true i).2 er) := by
            refine Ev.turn (fun k => tokens_Scanner_skip.p7_succ k _ _) ?_
            unfold tokens_Scanner_skip.e7
            rw [gapS_line h hb]
            exact Ev.tru rfl (ih false i (by simp; omega) hi)
          by_cases h10 : bt S i = 10
          · exact Ev.fls (by rw [dec_t h10]; rfl) h7
          · refine Ev.tru (by rw [dec_f h10]; rfl) (Ev.fls ?_ h7)
            rw [dec_t (hb.resolve_left h10)]; rfl
        · refine Ev.tru (by rw [dec_f (fun h => hb (.inl h))]; rfl) (Ev.tru (by rw [dec_f (fun h => hb (.inr h))]; rfl) ?_)
          refine h17 true fun hi1 => ?_
          rw [gapS_in h hb]
          exact ih true (i + 1) (by simp; omega) hi1
      | false =>
        refine Ev.fls rfl (Ev.turn (fun k => tokens_Scanner_skip.p7_succ k _ _) ?_)
        unfold tokens_Scanner_skip.e7
        rw [show (scn S st i false er).2.2.1 = false from rfl]
        refine Ev.fls rfl ?_
        by_cases h0 : bt S i = 59
        · refine Ev.tru (dec_t h0) (h17 true fun hi1 => ?_)
          rw [gapS_semi h h0]
          exact ih true (i + 1) (by simp; omega) hi1
        · refine Ev.fls (dec_f h0) (Ev.bind (blank_ev (bt_in S i)) ?_)
          cases hb : blkB (bt S i) with
          | true =>
            refine Ev.fls rfl (h17 false fun hi1 => ?_)
            rw [gapS_blank h h0 hb]
            exact ih false (i + 1) (by simp; omega) hi1
          | false =>
            rw [gapS_stop h h0 hb]
            exact Ev.tru rfl Ev.pure
    · exact hend c i h
theorem rgap_loop (hS : S.size ≤ 4294967280) : ∀ m c i, 2 * (S.size - i) + (if c = true then 1 else 0) ≤ m → i ≤ S.size → (c = true → Ev (fun k => ref12_gap.p4 k S (i : Int)) ((gapS S true i).1 : Int)) ∧ (c = false → Ev (fun k => ref12_gap.p0 k S (i : Int)) ((gapS S false i).1 : Int)) := by
  intro m
  have hend : ∀ i, i = S.size → Ev (fun k => ref12_gap.p0 k S (i : Int)) ((gapS S false i).1 : Int) := by
    intro i hi
    refine Ev.turn (fun k => ref12_gap.p0_succ k _ _) ?_
    unfold ref12_gap.e0
    rw [gapS_end (by omega)]
    exact Ev.fls (dec_f (by omega)) Ev.pure
  have hend4 : ∀ i, i = S.size → Ev (fun k => ref12_gap.p4 k S (i : Int)) ((gapS S true i).1 : Int) := by
    intro i hi
    refine Ev.turn (fun k => ref12_gap.p4_succ k _ _) ?_
    unfold ref12_gap.e4
    have := hend i hi
    rw [gapS_end (by omega)] at this ⊢
    exact Ev.fls (dec_f (by omega)) this
  induction m with
  | zero =>
    intro c i hm hi
    exact ⟨fun _ => hend4 i (by omega), fun _ => hend i (by omega)⟩
  | succ m ih =>
    intro c i hm hi
    by_cases h : i < S.size
    · refine ⟨fun hc => ?_, fun hc => ?_⟩
      · subst hc
        simp only [if_true] at hm
        refine Ev.turn (fun k => ref12_gap.p4_succ k _ _) ?_
        unfold ref12_gap.e4
        rw [btI_bt S h, w1 (by omega)]
        refine Ev.tru (dec_t (by omega)) (Ev.tru (by simp; omega) ?_)
        by_cases h10 : bt S i = 10
        · rw [gapS_line h (.inl h10)]
          exact Ev.fls (by rw [dec_t h10]; rfl) ((ih false i (by simp; omega) hi).2 rfl)
        · refine Ev.tru (by rw [dec_f h10]; rfl) (Ev.tru (by simp; omega) ?_)
          by_cases h13 : bt S i = 13
          · rw [gapS_line h (.inr h13)]
            exact Ev.fls (by rw [dec_t h13]; rfl) ((ih false i (by simp; omega) hi).2 rfl)
          · rw [gapS_in h (by rintro (h | h); exact h10 h; exact h13 h)]
            exact Ev.tru (by rw [dec_f h13]; rfl) ((ih true (i + 1) (by simp; omega) (by omega)).1 rfl)
      · subst hc
        refine Ev.turn (fun k => ref12_gap.p0_succ k _ _) ?_
        unfold ref12_gap.e0
        rw [btI_bt S h, w1 (by omega)]
        refine Ev.tru (dec_t (by omega)) (Ev.tru (by simp; omega) (Ev.bind (rblank_ev (bt_in S i)) ?_))
        cases hb : blkB (bt S i) with
        | true =>
          have h0 : bt S i ≠ 59 := fun e => by rw [e] at hb; cases hb
          rw [gapS_blank h h0 hb]
          exact Ev.tru rfl ((ih false (i + 1) (by simp; omega) (by omega)).2 rfl)
        | false =>
          refine Ev.fls rfl (Ev.tru (by simp; omega) ?_)
          by_cases h0 : bt S i = 59
          · refine Ev.fls (by rw [dec_t h0]; rfl) (Ev.turn (fun k => ref12_gap.p4_succ k _ _) ?_)
            unfold ref12_gap.e4
            rw [btI_bt S h, w1 (by omega), gapS_semi h h0]
            exact Ev.tru (dec_t (by omega)) (Ev.tru (by simp; omega) (Ev.tru (by rw [dec_f (by omega)]; rfl) (Ev.tru (by simp; omega) (Ev.tru (by rw [dec_f (by omega)]; rfl) ((ih true (i + 1) (by simp; omega) (by omega)).1 rfl)))))
          · rw [gapS_stop h h0 hb]
            exact Ev.tru (by rw [dec_f h0]; rfl) Ev.pure
    · exact ⟨fun _ => hend4 i (by omega), fun _ => hend i (by omega)⟩
theorem rgap_ev (hS : S.size ≤ 4294967280) {i : Nat} (hi : i ≤ S.size) : Ev (fun k => ref12_gap.f k S (i : Int)) ((gapS S false i).1 : Int) := (rgap_loop hS _ false i (Nat.le_refl _) hi).2 rfl
theorem dq_len : ∀ (n : Nat) (l : List UInt8), l.length ≤ n → (dq l).length ≤ l.length := by
  intro n
  induction n with
  | zero =>
    intro l hl
    obtain rfl : l = [] := List.eq_nil_of_length_eq_zero (by omega)
    exact Nat.le_refl _
  | succ n ih =>
    intro l hl
    match l, hl with
    | [], _ => exact Nat.le_refl _
    | [b], _ => exact Nat.le_refl _
    | b :: c :: l, hl =>
      simp only [List.length_cons] at hl
      rw [dq]
      split
      · have := ih l (by omega)
        simp only [List.length_cons]; omega
      · have := ih (c :: l) (by simp; omega)
        simp only [List.length_cons] at this ⊢; omega
theorem txt_size (a b : Nat) : (txt S a b).size ≤ S.size := by
  have h1 : (txt S a b).size = (dq (S.extract a b).data.toList).length := by
    show (dq (S.extract a b).data.toList).toArray.size = _
    simp
  have h2 := dq_len _ (S.extract a b).data.toList (Nat.le_refl _)
  have h3 : (S.extract a b).data.toList.length = (S.extract a b).size := Array.length_toList
  rw [h3, ByteArray.size_extract] at h2
  omega
theorem extr_size (a b : Nat) : (S.extract a b).size ≤ S.size := by rw [ByteArray.size_extract]; omega
def OkL (S : ByteArray) (i : Nat) (fin : Bool) : Lk → Prop
  | .opn => fin = false
  | .whl _ t e => i < e ∧ e ≤ S.size ∧ t.size ≤ S.size
  | .bad c a => i ≤ a ∧ a < S.size ∧ (c = 120 ∨ c = 121)
variable {i : Nat} {fin : Bool}
theorem ok_bad (hi : i < S.size) : OkL S i fin (.bad 120 i) := ⟨Nat.le_refl _, hi, .inl rfl⟩
theorem ok_quote (hi : i < S.size) : OkL S i fin (if fin = true then .bad 121 i else .opn) := by
  cases fin with
  | true => exact ⟨Nat.le_refl _, hi, .inr rfl⟩
  | false => rfl
theorem ok_ends (hi : i < S.size) {kd : Int} {a e : Nat} (h1 : i < e) (h2 : e ≤ S.size) : OkL S i fin (endsL S i fin kd a e) := by
  unfold endsL
  split
  · rename_i h; exact h.2
  · split
    · exact ok_bad hi
    · exact ⟨h1, h2, extr_size _ _⟩
theorem ok_sharpE (hi : i + 1 < S.size) {kd : Int} {e : Nat} (h1 : i + 2 ≤ e) (h2 : e ≤ S.size) : OkL S i fin (sharpE S i fin kd e) := by
  unfold sharpE
  split
  · split
    · rename_i h; exact h.2
    · exact ok_bad (by omega)
  · exact ok_ends (by omega) (by omega) h2
theorem ok_sharp (hi : i < S.size) : OkL S i fin (sharpL S i fin) := by
  unfold sharpL
  split
  · cases fin with
    | true => exact ok_bad hi
    | false => rfl
  · split
    · exact ok_sharpE (by omega) (runE_le _ _ _) (runE_size _ _ (by omega))
    · split
      · exact ok_sharpE (by omega) (runE_le _ _ _) (runE_size _ _ (by omega))
      · exact ok_bad hi
theorem ok_word (hi : i < S.size) {kd : Int} {a : Nat} (ha : i ≤ a) (ha2 : a ≤ S.size) : OkL S i fin (wordL S i fin kd a) := by
  unfold wordL wordE
  have h1 := runE_le sgB S a
  have h2 := runE_size sgB S ha2
  split
  · exact ok_bad hi
  · split
    · rename_i h; exact h.2
    · split
      · exact ok_bad hi
      · exact ⟨by omega, h2, extr_size _ _⟩
theorem ok_num (hi : i < S.size) (hd : digB (bt S i) = true) : OkL S i fin (numL S i fin) := by
  unfold numL numE
  have h0 : i < runE digB S i := by
    rw [runE_yes hi hd]
    have := runE_le digB S (i + 1)
    omega
  have h2 := runE_size digB S (Nat.le_of_lt hi)
  split
  · exact ok_bad hi
  · split
    · rename_i h
      split
      · split
        · rename_i h; exact h.2
        · exact ok_bad hi
      · have := runE_le digB S (runE digB S i + 1)
        exact ok_ends hi (by omega) (runE_size _ _ (by omega))
    · exact ok_ends hi h0 h2
theorem ok_bar (hi : i < S.size) : ∀ m j, S.size - j ≤ m → i < j → OkL S i fin (barE S i fin j) := by
  intro m
  induction m with
  | zero =>
    intro j hm _
    rw [barE_end (by omega)]
    exact ok_quote hi
  | succ m ih =>
    intro j hm hij
    by_cases h : j < S.size
    · rw [barE_step h]
      split
      · exact ⟨by omega, by omega, extr_size _ _⟩
      · split
        · exact ⟨by omega, h, .inl rfl⟩
        · exact ih (j + 1) (by omega) (by omega)
    · rw [barE_end h]
      exact ok_quote hi
theorem ok_text (hi : i < S.size) : ∀ m j, S.size - j ≤ m → i < j → OkL S i fin (textE S i fin j) := by
  intro m
  induction m with
  | zero =>
    intro j hm _
    rw [textE_end (by omega)]
    exact ok_quote hi
  | succ m ih =>
    intro j hm hij
    by_cases h : j < S.size
    · by_cases hq : bt S j = 34
      · rw [textE_quote h hq]
        split
        · exact ih (j + 2) (by omega) (by omega)
        · split
          · rename_i h; exact h.2
          · exact ⟨by omega, by omega, txt_size _ _⟩
      · rw [textE_step h hq]
        split
        · exact ⟨by omega, h, .inl rfl⟩
        · exact ih (j + 1) (by omega) (by omega)
    · rw [textE_end h]
      exact ok_quote hi
theorem ok_lk (hi : i < S.size) : OkL S i fin (lk S i fin) := by
  unfold lk
  split
  · exact ⟨by omega, by omega, by show 1 ≤ _; omega⟩
  split
  · exact ⟨by omega, by omega, by show 1 ≤ _; omega⟩
  split
  · exact ok_bar hi _ _ (Nat.le_refl _) (by omega)
  split
  · exact ok_text hi _ _ (Nat.le_refl _) (by omega)
  split
  · exact ok_sharp hi
  split
  · exact ok_word hi (by omega) (by omega)
  split
  · rename_i h; exact ok_num hi h
  split
  · exact ok_word hi (Nat.le_refl _) (Nat.le_of_lt hi)
  · exact ok_bad hi
end Go.FK
