import Derived.Test.YtijooefmaecigaaDoorM2
import Derived.Test.YtijooefmaecigaaDoorF3

/- Tokens: a text's tokens, by the program and by the reference; the same of a text that comes in pieces. -/
namespace Go.FK

/-- How a reading ends: the place behind what was told (c: within a comment), or an error and where. -/
inductive Fi where
  | ok (j : Nat) (c : Bool)
  | err (code : Int) (a : Nat) (c : Bool)

def tok (S : ByteArray) (k : Int) (t : ByteArray) (j e : Nat) : TK := (k, t, (j : Int), (e : Int), ((lc S j).1 : Int), ((lc S j).2 : Int))
/-- The tokens from j on, behind those of l. -/
def telP (S : ByteArray) (fin : Bool) (l : List TK) (j : Nat) (c : Bool) : List TK × Fi :=
  if _h : j < S.size then
    match lk S j fin with
    | .opn => (l, .ok j c)
    | .bad cd a => (l, .err cd a c)
    | .whl k t e => if _h2 : j < e then telP S fin (l ++ [tok S k t j e]) (gapS S false e).1 (gapS S false e).2 else (l, .ok j c)
  else (l, .ok j c)
termination_by S.size - j
decreasing_by
  have := (gapS_ge S false e).1
  omega
def telR (S : ByteArray) (fin : Bool) (l : List TK) (c : Bool) (i : Nat) : List TK × Fi := telP S fin l (gapS S c i).1 (gapS S c i).2

variable {S : ByteArray} {fin : Bool}
theorem telP_end {l : List TK} {j : Nat} {c : Bool} (h : ¬ j < S.size) : telP S fin l j c = (l, .ok j c) := by rw [telP, dif_neg h]
theorem telP_opn {l : List TK} {j : Nat} {c : Bool} (h : j < S.size) (hl : lk S j fin = .opn) : telP S fin l j c = (l, .ok j c) := by rw [telP, dif_pos h]; simp only [hl]
theorem telP_bad {l : List TK} {j : Nat} {c : Bool} {cd : Int} {a : Nat} (h : j < S.size) (hl : lk S j fin = .bad cd a) : telP S fin l j c = (l, .err cd a c) := by rw [telP, dif_pos h]; simp only [hl]
theorem telP_whl {l : List TK} {j : Nat} {c : Bool} {k : Int} {t : ByteArray} {e : Nat} (h : j < S.size) (hl : lk S j fin = .whl k t e) (he : j < e) : telP S fin l j c = telP S fin (l ++ [tok S k t j e]) (gapS S false e).1 (gapS S false e).2 := by
  rw [telP, dif_pos h]
  simp only [hl, dif_pos he]

/-- By the tokens, one after another. -/
theorem telP_ind {P : List TK → Nat → Bool → List TK × Fi → Prop} (hend : ∀ l j c, ¬ j < S.size → P l j c (l, .ok j c)) (hopn : ∀ l j c, j < S.size → fin = false → lk S j fin = .opn → P l j c (l, .ok j c))
    (hbad : ∀ l j c cd a, j < S.size → lk S j fin = .bad cd a → j ≤ a → a < S.size → (cd = 120 ∨ cd = 121) → P l j c (l, .err cd a c))
    (hwhl : ∀ l j c k t e r, j < S.size → lk S j fin = .whl k t e → j < e → e ≤ S.size → t.size ≤ S.size → P (l ++ [tok S k t j e]) (gapS S false e).1 (gapS S false e).2 r → P l j c r) : ∀ m l j c, S.size - j ≤ m → P l j c (telP S fin l j c) := by
  intro m
  induction m with
  | zero =>
    intro l j c hm
    rw [telP_end (by omega)]
    exact hend l j c (by omega)
  | succ m ih =>
    intro l j c hm
    by_cases h : j < S.size
    · have hok := ok_lk (S := S) (i := j) (fin := fin) h
      cases hl : lk S j fin with
      | opn =>
        rw [hl] at hok
        rw [telP_opn h hl]
        exact hopn l j c h hok hl
      | bad cd a =>
        rw [hl] at hok
        rw [telP_bad h hl]
        exact hbad l j c cd a h hl hok.1 hok.2.1 hok.2.2
      | whl k t e =>
        rw [hl] at hok
        have := (gapS_ge S false e).1
        have h1 := hok.1
        rw [telP_whl h hl hok.1]
        exact hwhl l j c k t e _ h hl hok.1 hok.2.1 hok.2.2 (ih _ _ _ (by omega))
    · rw [telP_end h]
      exact hend l j c h

theorem telP_len {l : List TK} {j : Nat} {c : Bool} (hl : l.length ≤ j) (hj : j ≤ S.size) : (telP S fin l j c).1.length ≤ S.size :=
  telP_ind (P := fun l j _ r => l.length ≤ j → j ≤ S.size → r.1.length ≤ S.size) (fun _ _ _ _ h1 h2 => by simp only; omega) (fun _ _ _ _ _ _ h1 h2 => by simp only; omega) (fun _ _ _ _ _ _ _ _ _ _ h1 h2 => by simp only; omega)
    (fun l j c k t e r h hl he h3 _ ih h1 h2 => ih (by have := (gapS_ge S false e).1; simp; omega) ((gapS_ge S false e).2 h3)) _ l j c (Nat.le_refl _) hl hj
/-- An end within a text. -/
def FiOk (S : ByteArray) (i : Nat) : Fi → Prop
  | .ok j _ => i ≤ j ∧ j ≤ S.size
  | .err cd a _ => i ≤ a ∧ a < S.size ∧ (cd = 120 ∨ cd = 121)
theorem FiOk.mono {i i' : Nat} (h : i ≤ i') : ∀ {f : Fi}, FiOk S i' f → FiOk S i f
  | .ok _ _, hf => ⟨Nat.le_trans h hf.1, hf.2⟩
  | .err _ _ _, hf => ⟨Nat.le_trans h hf.1, hf.2⟩
theorem telP_fi {l : List TK} {j : Nat} {c : Bool} (hj : j ≤ S.size) : FiOk S j (telP S fin l j c).2 :=
  telP_ind (P := fun _ j _ r => j ≤ S.size → FiOk S j r.2) (fun _ _ _ _ h => ⟨Nat.le_refl _, h⟩) (fun _ _ _ _ _ _ h => ⟨Nat.le_refl _, h⟩) (fun _ _ _ _ _ _ _ h1 h2 h3 _ => ⟨h1, h2, h3⟩)
    (fun l j c k t e r h hl he h3 _ ih h2 => (ih ((gapS_ge S false e).2 h3)).mono (by have := (gapS_ge S false e).1; omega)) _ l j c (Nat.le_refl _) hj
theorem telP_app {l : List TK} {j : Nat} {c : Bool} : ∀ l0, telP S fin (l0 ++ l) j c = (l0 ++ (telP S fin l j c).1, (telP S fin l j c).2) := by
  refine telP_ind (P := fun l j c r => ∀ l0, telP S fin (l0 ++ l) j c = (l0 ++ r.1, r.2)) (fun l j c h l0 => ?_) (fun l j c h _ hl l0 => ?_) (fun l j c cd a h hl _ _ _ l0 => ?_) (fun l j c k t e r h hl he _ _ ih l0 => ?_) _ l j c (Nat.le_refl _)
  · rw [telP_end h]
  · rw [telP_opn h hl]
  · rw [telP_bad h hl]
  · rw [telP_whl h hl he, List.append_assoc, ih l0]

/-! ### The program's tell -/
def encS (S : ByteArray) : List TK × Fi → SC × List TK × Int
  | (l, .ok j c) => (scn S 1 j c 0, l, 0)
  | (l, .err cd a c) => (scn S 3 a c cd, l, cd)

theorem clone_ev {t : ByteArray} (h : t.size ≤ 281474976710656) : Ev (fun k => strings_Clone.f k t) t := by
  unfold strings_Clone.f strings_Clone.e
  refine Ev.pass ⟨0, fun k _ => ?_⟩
  unfold stringslite_Clone.f
  rw [dec_t h]
  rfl

theorem tell_loop (hS : S.size ≤ 4294967280) {l : List TK} {j : Nat} {c : Bool} : j ≤ S.size → l.length ≤ j → (j < S.size → c = false) → Ev (fun k => tokens_Scanner_tell.p0 k (scn S 1 j c 0) l fin) (encS S (telP S fin l j c)) := by
  have hne : ∀ {j : Nat} {c : Bool}, j < S.size → (!((scn S 1 j c 0).2.1.toList == (ByteArray.mk #[]).toList)) = true := fun h => by
    rw [show (scn S 1 _ _ 0).2.1 = rst S _ from rfl, empty_beq, rst_size, dec_f (by omega)]
    rfl
  refine telP_ind (P := fun l j c r => j ≤ S.size → l.length ≤ j → (j < S.size → c = false) → Ev (fun k => tokens_Scanner_tell.p0 k (scn S 1 j c 0) l fin) (encS S r)) (fun l j c h hj hl hc => ?_) (fun l j c h hf hlk hj hl hc => ?_) (fun l j c cd a h hlk h1 h2 h3 hj hl hc => ?_) (fun l j c k t e r h hlk he h3 ht ih hj hl hc => ?_) _ l j c (Nat.le_refl _)
  · refine Ev.turn (fun k => tokens_Scanner_tell.p0_succ k _ _ _) ?_
    unfold tokens_Scanner_tell.e0
    rw [show (scn S 1 j c 0).2.1 = rst S j from rfl, empty_beq, rst_size]
    exact Ev.fls (by rw [dec_t (by omega)]; rfl) Ev.pure
  · refine Ev.turn (fun k => tokens_Scanner_tell.p0_succ k _ _ _) ?_
    unfold tokens_Scanner_tell.e0
    obtain ⟨r, hr, hrel⟩ := front_fr (fin := fin) hS h
    rw [hlk] at hrel
    refine Ev.tru (hne h) (Ev.bind hr ?_)
    obtain ⟨hm, _⟩ := hrel
    rw [hm, hf]
    exact Ev.tru rfl (Ev.tru rfl Ev.pure)
  · refine Ev.turn (fun k => tokens_Scanner_tell.p0_succ k _ _ _) ?_
    unfold tokens_Scanner_tell.e0
    obtain ⟨r, hr, hrel⟩ := front_fr (fin := fin) hS h
    rw [hlk] at hrel
    obtain ⟨hc0, hcd, hsz, hm⟩ := hrel
    refine Ev.tru (hne h) (Ev.bind hr ?_)
    have h17 : Ev (fun k => tokens_Scanner_tell.p17 k (scn S 1 j c 0) l r fin) (encS S (l, .err cd a c)) := by
      refine Ev.turn (fun k => tokens_Scanner_tell.p17_succ k _ _ _ _) ?_
      unfold tokens_Scanner_tell.e17
      refine Ev.tru (by rw [hcd, dec_f hc0]; rfl) (Ev.turn (fun k => tokens_Scanner_tell.p19_succ k _ _ _) ?_)
      unfold tokens_Scanner_tell.e19
      have := pass_ev hS (i := j) (n := a - j) (by omega) 1 c 0
      rw [show j + (a - j) = a by omega] at this
      rw [hsz, hcd, show ((a : Int) - (j : Int)) = ((a - j : Nat) : Int) by omega]
      exact Ev.bind this Ev.pure
    cases hmm : r.2.2.2.1 with
    | false => exact Ev.fls rfl h17
    | true =>
      rw [hm hmm] at h17 ⊢
      exact Ev.tru rfl (Ev.fls rfl h17)
  · refine Ev.turn (fun k => tokens_Scanner_tell.p0_succ k _ _ _) ?_
    unfold tokens_Scanner_tell.e0
    obtain ⟨r0, hr, hrel⟩ := front_fr (fin := fin) hS h
    rw [hlk] at hrel
    simp only [RelF] at hrel
    subst hrel
    refine Ev.tru (hne h) (Ev.bind hr (Ev.fls rfl (Ev.turn (fun k => tokens_Scanner_tell.p17_succ k _ _ _ _) ?_)))
    unfold tokens_Scanner_tell.e17
    have hp := pass_ev hS (i := j) (n := e - j) (by omega) 1 c 0
    rw [show j + (e - j) = e by omega] at hp
    have hg := skip_ev hS 1 0 _ false e (Nat.le_refl _) h3
    have hlj := lc_le S j
    have e1 : IntKind.i64.wrap ((scn S 1 j c 0).2.2.2.1.2.2.1 + ((e : Int) - (j : Int))) = (e : Int) := by
      show IntKind.i64.wrap ((j : Int) + ((e : Int) - (j : Int))) = _
      rw [wr (by omega) (by omega)]; omega
    have hcf := hc h
    subst hcf
    dsimp only
    rw [e1, show ((e : Int) - (j : Int)) = ((e - j : Nat) : Int) by omega]
    refine Ev.fls rfl (Ev.fls rfl (Ev.bind (clone_ev (by omega)) (Ev.tru (by simpa using ble_bound (n := l.length + 1) (by omega) 56 (by omega)) (Ev.bind hp (Ev.bind hg ?_)))))
    exact ih ((gapS_ge S false e).2 h3) (by have := (gapS_ge S false e).1; simp; omega) (fun hx => (gapS_at S false e hx).1)

theorem tell_ev (hS : S.size ≤ 4294967280) {i : Nat} (hi : i ≤ S.size) (c : Bool) : Ev (fun k => tokens_Scanner_tell.f k (scn S 1 i c 0) fin) (encS S (telR S fin [] c i)) := by
  unfold tokens_Scanner_tell.f tokens_Scanner_tell.e telR
  exact Ev.bind (skip_ev hS 1 0 _ c i (Nat.le_refl _) hi) (tell_loop hS ((gapS_ge S c i).2 hi) (by simp) (fun hx => (gapS_at S c i hx).1))

/-! ### The reference's Read -/
/-! ### More of a text -/
section
variable {T : ByteArray} {n : Nat}
/-- The head of a text. -/
abbrev hd (T : ByteArray) (n : Nat) : ByteArray := T.extract 0 n
theorem hd_size (hn : n ≤ T.size) : (hd T n).size = n := by rw [ext_size T hn]; omega
theorem hd_bt (hn : n ≤ T.size) {j : Nat} (h : j < n) : bt (hd T n) j = bt T j := by
  have := bt_ext T (i := 0) hn (j := j) (by omega)
  rwa [Nat.zero_add] at this
theorem hd_ext {a b : Nat} (h : b ≤ n) : (hd T n).extract a b = T.extract a b := by
  rw [ByteArray.extract_extract, Nat.zero_add, Nat.zero_add, Nat.min_eq_left h]
theorem hd_txt {a b : Nat} (h : b ≤ n) : txt (hd T n) a b = txt T a b := by unfold txt; rw [hd_ext h]
theorem hd_lc (hn : n ≤ T.size) : ∀ {j : Nat}, j ≤ n → lc (hd T n) j = lc T j
  | 0, _ => rfl
  | j + 1, h => by unfold lc; rw [hd_bt hn h, hd_lc hn (show j ≤ n by omega)]
theorem hd_run (hn : n ≤ T.size) (p : Int → Bool) : ∀ m i, n - i ≤ m → runE p (hd T n) i < n → runE p T i = runE p (hd T n) i := by
  intro m
  induction m with
  | zero =>
    intro i hm h
    rw [runE_end p _ (by rw [hd_size hn]; omega)] at h
    omega
  | succ m ih =>
    intro i hm h
    by_cases hi : i < n
    · cases hp : p (bt T i) with
      | true =>
        have hp' : p (bt (hd T n) i) = true := by rw [hd_bt hn hi]; exact hp
        rw [runE_yes (by rw [hd_size hn]; exact hi) hp'] at h ⊢
        rw [runE_yes (by omega) hp]
        exact ih (i + 1) (by omega) h
      | false =>
        have hp' : p (bt (hd T n) i) = false := by rw [hd_bt hn hi]; exact hp
        rw [runE_no (by rw [hd_size hn]; exact hi) hp', runE_no (by omega) hp]
    · rw [runE_end p _ (by rw [hd_size hn]; exact hi)] at h
      omega
theorem hd_run_le (hn : n ≤ T.size) (p : Int → Bool) {i : Nat} (hi : i ≤ n) : runE p (hd T n) i ≤ n := by
  have := runE_size p (hd T n) (i := i) (by rw [hd_size hn]; exact hi)
  rwa [hd_size hn] at this
/-- A run that goes to the end of the head goes on at least as far in the whole. -/
theorem hd_run_ge (hn : n ≤ T.size) (p : Int → Bool) {i : Nat} (h : runE p (hd T n) i = n) (hi : i ≤ n) : n ≤ runE p T i := by
  rcases Nat.lt_or_ge (runE p T i) n with hlt | hge
  · have hst := runE_stop p T _ i rfl (by omega)
    have key : ∀ m i, n - i ≤ m → i ≤ n → runE p T i < n → runE p (hd T n) i = runE p T i := by
      intro m
      induction m with
      | zero =>
        intro i hm hi h
        have := runE_le p T i
        omega
      | succ m ih =>
        intro i hm hi h
        have hge := runE_le p T i
        have hiN : i < n := by omega
        have hiT : i < T.size := by omega
        have hiH : i < (hd T n).size := by rw [hd_size hn]; exact hiN
        cases hp : p (bt T i) with
        | true =>
          have hp' : p (bt (hd T n) i) = true := by rw [hd_bt hn hiN]; exact hp
          rw [runE_yes hiT hp] at h ⊢
          rw [runE_yes hiH hp']
          exact ih (i + 1) (by omega) (by omega) h
        | false =>
          have hp' : p (bt (hd T n) i) = false := by rw [hd_bt hn hiN]; exact hp
          rw [runE_no hiH hp', runE_no hiT hp]
    have := key _ i (Nat.le_refl _) hi hlt
    omega
  · exact hge

variable {i : Nat} {b : Bool}
theorem hd_ends (hn : n ≤ T.size) {kd : Int} {a e : Nat} (he : e < n) : endsL T i b kd a e = endsL (hd T n) i false kd a e := by
  unfold endsL
  rw [hd_size hn, hd_bt hn he, if_neg (show ¬ (e = T.size ∧ b = false) from fun h => by omega), if_neg (show ¬ (e = n ∧ false = false) from fun h => by omega), hd_ext (by omega)]
  by_cases c : sgB (bt T e) = true
  · rw [if_pos ⟨by omega, c⟩, if_pos ⟨he, c⟩]
  · rw [if_neg (fun h => c h.2), if_neg (fun h => c h.2)]
theorem ends_opn {kd : Int} {a e : Nat} (he : e = S.size) : endsL S i false kd a e = .opn := by unfold endsL; rw [if_pos ⟨he, rfl⟩]
theorem hd_sharpE (hn : n ≤ T.size) {kd : Int} {p : Int → Bool} (hi : i + 2 ≤ n) (h : sharpE (hd T n) i false kd (runE p (hd T n) (i + 2)) ≠ .opn) : sharpE T i b kd (runE p T (i + 2)) = sharpE (hd T n) i false kd (runE p (hd T n) (i + 2)) := by
  have hle := hd_run_le hn p hi
  rcases Nat.lt_or_ge (runE p (hd T n) (i + 2)) n with hlt | hge
  · rw [hd_run hn p _ _ (Nat.le_refl _) hlt]
    unfold sharpE
    by_cases c : runE p (hd T n) (i + 2) = i + 2
    · rw [if_pos c, if_pos c, hd_size hn, if_neg (show ¬ (i + 2 = T.size ∧ b = false) from fun h => by omega), if_neg (show ¬ (i + 2 = n ∧ false = false) from fun h => by omega)]
    · rw [if_neg c, if_neg c]
      exact hd_ends hn hlt
  · refine absurd ?_ h
    unfold sharpE
    by_cases c : runE p (hd T n) (i + 2) = i + 2
    · rw [if_pos c, hd_size hn, if_pos ⟨by omega, rfl⟩]
    · rw [if_neg c, ends_opn (by rw [hd_size hn]; omega)]
theorem hd_word (hn : n ≤ T.size) {kd : Int} {a : Nat} (ha : a ≤ n) (h : wordL (hd T n) i false kd a ≠ .opn) : wordL T i b kd a = wordL (hd T n) i false kd a := by
  have hle := hd_run_le hn sgB ha
  have hge0 := runE_le sgB (hd T n) a
  unfold wordL at h ⊢
  rcases Nat.lt_or_ge (runE sgB (hd T n) a) n with hlt | hge
  · rw [hd_run hn sgB _ _ (Nat.le_refl _) hlt]
    unfold wordE
    rw [hd_size hn, hd_ext (by omega), hd_bt hn (show a < n by omega)]
    by_cases c : a < runE sgB (hd T n) a ∧ digB (bt T a) = true
    · rw [if_pos c, if_pos c]
    · rw [if_neg c, if_neg c, if_neg (show ¬ (runE sgB (hd T n) a = T.size ∧ b = false) from fun h => by omega), if_neg (show ¬ (runE sgB (hd T n) a = n ∧ false = false) from fun h => by omega)]
  · have hgT := hd_run_ge hn sgB (i := a) (by omega) ha
    unfold wordE at h ⊢
    by_cases c : a < runE sgB (hd T n) a ∧ digB (bt (hd T n) a) = true
    · rw [if_pos c]
      have c1 := c.1
      rw [hd_bt hn (by omega)] at c
      rw [if_pos ⟨by omega, c.2⟩]
    · rw [if_neg c, hd_size hn, if_pos ⟨by omega, rfl⟩] at h
      exact absurd rfl h
theorem hd_num (hn : n ≤ T.size) (hi : i < n) (h : numL (hd T n) i false ≠ .opn) : numL T i b = numL (hd T n) i false := by
  have hle := hd_run_le hn digB (Nat.le_of_lt hi)
  unfold numL at h ⊢
  rw [hd_bt hn hi] at h ⊢
  rcases Nat.lt_or_ge (runE digB (hd T n) i) n with hlt | hge
  · rw [hd_run hn digB _ _ (Nat.le_refl _) hlt]
    by_cases c : i + 1 < runE digB (hd T n) i ∧ bt T i = 48
    · rw [if_pos c, if_pos c]
    · rw [if_neg c] at h
      rw [if_neg c, if_neg c]
      generalize runE digB (hd T n) i = e at *
      have eH : numE (hd T n) i false e = if e < n ∧ bt T e = 46 then (if runE digB (hd T n) (e + 1) = e + 1 then (if e + 1 = n ∧ false = false then Lk.opn else .bad 120 i) else endsL (hd T n) i false 6 i (runE digB (hd T n) (e + 1))) else endsL (hd T n) i false 5 i e := by unfold numE; rw [hd_size hn, hd_bt hn hlt]
      rw [eH] at h ⊢
      unfold numE
      by_cases c2 : bt T e = 46
      · rw [if_pos ⟨hlt, c2⟩] at h
        rw [if_pos (show e < T.size ∧ bt T e = 46 from ⟨by omega, c2⟩), if_pos (show e < n ∧ bt T e = 46 from ⟨hlt, c2⟩)]
        have hle2 := hd_run_le hn digB (i := e + 1) (by omega)
        have hge2 := runE_le digB (hd T n) (e + 1)
        rcases Nat.lt_or_ge (runE digB (hd T n) (e + 1)) n with hlt2 | hge3
        · rw [hd_run hn digB _ _ (Nat.le_refl _) hlt2]
          by_cases c3 : runE digB (hd T n) (e + 1) = e + 1
          · rw [if_pos c3, if_pos c3, if_neg (show ¬ (e + 1 = T.size ∧ b = false) from fun h => by omega), if_neg (show ¬ (e + 1 = n ∧ false = false) from fun h => by omega)]
          · rw [if_neg c3, if_neg c3]
            exact hd_ends hn hlt2
        · refine absurd ?_ h
          by_cases c3 : runE digB (hd T n) (e + 1) = e + 1
          · rw [if_pos c3, if_pos ⟨by omega, rfl⟩]
          · rw [if_neg c3, ends_opn (by rw [hd_size hn]; omega)]
      · rw [if_neg (fun h => c2 h.2), if_neg (fun h => c2 h.2)]
        exact hd_ends hn hlt
  · have hgT := hd_run_ge hn digB (i := i) (by omega) (Nat.le_of_lt hi)
    by_cases c : i + 1 < runE digB (hd T n) i ∧ bt T i = 48
    · rw [if_pos c, if_pos ⟨by have := c.1; omega, c.2⟩]
    · rw [if_neg c] at h
      refine absurd ?_ h
      unfold numE
      rw [hd_size hn, if_neg (fun h => by omega), ends_opn (by rw [hd_size hn]; omega)]
theorem hd_bar (hn : n ≤ T.size) : ∀ m j, n - j ≤ m → barE (hd T n) i false j ≠ .opn → barE T i b j = barE (hd T n) i false j := by
  intro m
  induction m with
  | zero =>
    intro j hm h
    rw [barE_end (by rw [hd_size hn]; omega)] at h
    exact absurd rfl h
  | succ m ih =>
    intro j hm h
    by_cases hj : j < n
    · have eH := barE_step (S := hd T n) (i := i) (fin := false) (j := j) (by rw [hd_size hn]; exact hj)
      have eT := barE_step (S := T) (i := i) (fin := b) (j := j) (by omega)
      rw [hd_bt hn hj, hd_ext (by omega)] at eH
      rw [eH] at h ⊢
      rw [eT]
      by_cases c1 : bt T j = 124
      · rw [if_pos c1, if_pos c1]
      · rw [if_neg c1] at h
        rw [if_neg c1, if_neg c1]
        by_cases c2 : quoB (bt T j) = false ∨ bt T j = 92
        · rw [if_pos c2, if_pos c2]
        · rw [if_neg c2] at h
          rw [if_neg c2, if_neg c2]
          exact ih (j + 1) (by omega) h
    · rw [barE_end (by rw [hd_size hn]; exact hj)] at h
      exact absurd rfl h
theorem hd_text (hn : n ≤ T.size) : ∀ m j, n - j ≤ m → textE (hd T n) i false j ≠ .opn → textE T i b j = textE (hd T n) i false j := by
  intro m
  induction m with
  | zero =>
    intro j hm h
    rw [textE_end (by rw [hd_size hn]; omega)] at h
    exact absurd rfl h
  | succ m ih =>
    intro j hm h
    by_cases hj : j < n
    · by_cases hq : bt T j = 34
      · have eH := textE_quote (S := hd T n) (i := i) (fin := false) (j := j) (by rw [hd_size hn]; exact hj) (by rw [hd_bt hn hj]; exact hq)
        have eT := textE_quote (S := T) (i := i) (fin := b) (j := j) (by omega) hq
        rw [hd_size hn, hd_txt (by omega)] at eH
        rw [eH] at h ⊢
        rw [eT]
        by_cases c1 : j + 1 < n
        · rw [hd_bt hn c1] at h ⊢
          by_cases c2 : bt T (j + 1) = 34
          · rw [if_pos ⟨c1, c2⟩] at h
            rw [if_pos ⟨by omega, c2⟩, if_pos ⟨c1, c2⟩]
            exact ih (j + 2) (by omega) h
          · rw [if_neg (show ¬ (j + 1 < T.size ∧ bt T (j + 1) = 34) from fun h => c2 h.2), if_neg (show ¬ (j + 1 < n ∧ bt T (j + 1) = 34) from fun h => c2 h.2), if_neg (show ¬ (j + 1 = T.size ∧ b = false) from fun h => by omega), if_neg (show ¬ (j + 1 = n ∧ false = false) from fun h => by omega)]
        · rw [if_neg (fun h => c1 h.1), if_pos ⟨by omega, rfl⟩] at h
          exact absurd rfl h
      · have eH := textE_step (S := hd T n) (i := i) (fin := false) (j := j) (by rw [hd_size hn]; exact hj) (by rw [hd_bt hn hj]; exact hq)
        have eT := textE_step (S := T) (i := i) (fin := b) (j := j) (by omega) hq
        rw [hd_bt hn hj] at eH
        rw [eH] at h ⊢
        rw [eT]
        by_cases c1 : quoB (bt T j) = false
        · rw [if_pos c1, if_pos c1]
        · rw [if_neg c1] at h
          rw [if_neg c1, if_neg c1]
          exact ih (j + 1) (by omega) h
    · rw [textE_end (by rw [hd_size hn]; exact hj)] at h
      exact absurd rfl h
/-- What is told of a head is so, whatever follows. -/
theorem hd_lk (hn : n ≤ T.size) (hi : i < n) (h : lk (hd T n) i false ≠ .opn) : lk T i b = lk (hd T n) i false := by
  unfold lk at h ⊢
  rw [hd_bt hn hi] at h ⊢
  by_cases c1 : bt T i = 40
  · rw [if_pos c1, if_pos c1]
  rw [if_neg c1] at h; rw [if_neg c1, if_neg c1]
  by_cases c2 : bt T i = 41
  · rw [if_pos c2, if_pos c2]
  rw [if_neg c2] at h; rw [if_neg c2, if_neg c2]
  by_cases c3 : bt T i = 124
  · rw [if_pos c3] at h; rw [if_pos c3, if_pos c3]
    exact hd_bar hn _ _ (Nat.le_refl _) h
  rw [if_neg c3] at h; rw [if_neg c3, if_neg c3]
  by_cases c4 : bt T i = 34
  · rw [if_pos c4] at h; rw [if_pos c4, if_pos c4]
    exact hd_text hn _ _ (Nat.le_refl _) h
  rw [if_neg c4] at h; rw [if_neg c4, if_neg c4]
  by_cases c5 : bt T i = 35
  · rw [if_pos c5] at h; rw [if_pos c5, if_pos c5]
    unfold sharpL at h ⊢
    rw [hd_size hn] at h ⊢
    by_cases d1 : i + 1 = n
    · rw [if_pos d1, if_neg (by decide)] at h
      exact absurd rfl h
    · rw [hd_bt hn (show i + 1 < n by omega), if_neg d1] at h
      rw [hd_bt hn (show i + 1 < n by omega), if_neg d1, if_neg (show ¬ i + 1 = T.size by omega)]
      by_cases d2 : bt T (i + 1) = 120
      · rw [if_pos d2] at h; rw [if_pos d2, if_pos d2]
        exact hd_sharpE hn (by omega) h
      rw [if_neg d2] at h; rw [if_neg d2, if_neg d2]
      by_cases d3 : bt T (i + 1) = 98
      · rw [if_pos d3] at h; rw [if_pos d3, if_pos d3]
        exact hd_sharpE hn (by omega) h
      · rw [if_neg d3, if_neg d3]
  rw [if_neg c5] at h; rw [if_neg c5, if_neg c5]
  by_cases c6 : bt T i = 58
  · rw [if_pos c6] at h; rw [if_pos c6, if_pos c6]
    exact hd_word hn (by omega) h
  rw [if_neg c6] at h; rw [if_neg c6, if_neg c6]
  by_cases c7 : digB (bt T i) = true
  · rw [if_pos c7] at h; rw [if_pos c7, if_pos c7]
    exact hd_num hn hi h
  rw [if_neg c7] at h; rw [if_neg c7, if_neg c7]
  by_cases c8 : sgB (bt T i) = true
  · rw [if_pos c8] at h; rw [if_pos c8, if_pos c8]
    exact hd_word hn (Nat.le_of_lt hi) h
  · rw [if_neg c8, if_neg c8]

theorem hd_gap (hn : n ≤ T.size) {c : Bool} {i : Nat} (hi : i ≤ n) : gapS T c i = if (gapS (hd T n) c i).1 < n then gapS (hd T n) c i else gapS T (gapS (hd T n) c i).2 n := by
  have := gapS_ind (S := hd T n) (P := fun c i r => i ≤ n → gapS T c i = if r.1 < n then r else gapS T r.2 n) (fun c i h hi => by
    rw [hd_size hn] at h
    rw [if_neg (by simpa using h)]
    obtain rfl : i = n := by omega
    rfl) (fun i r h hb ih hi => by
    rw [hd_size hn] at h
    rw [hd_bt hn h] at hb
    rw [gapS_line (by omega) hb]
    exact ih hi) (fun i r h hb ih hi => by
    rw [hd_size hn] at h
    rw [hd_bt hn h] at hb
    rw [gapS_in (by omega) hb]
    exact ih (by omega)) (fun i r h hb ih hi => by
    rw [hd_size hn] at h
    rw [hd_bt hn h] at hb
    rw [gapS_semi (by omega) hb]
    exact ih (by omega)) (fun i r h h0 hb ih hi => by
    rw [hd_size hn] at h
    rw [hd_bt hn h] at hb h0
    rw [gapS_blank (by omega) h0 hb]
    exact ih (by omega)) (fun i h h0 hb hi => by
    rw [hd_size hn] at h
    rw [hd_bt hn h] at hb h0
    rw [gapS_stop (by omega) h0 hb, if_pos h]) _ c i (Nat.le_refl _)
  exact this hi

/-- The tokens of a text that goes on. -/
theorem hd_tel (hn : n ≤ T.size) {l : List TK} {j : Nat} {c : Bool} : j ≤ n → (j < n → c = false ∧ gapS T false j = (j, false)) → ∀ c0 i0, gapS T c0 i0 = (if j < n then (j, c) else gapS T c n) →
    (∀ cd a f l', telP (hd T n) false l j c = (l', .err cd a f) → telR T b l c0 i0 = (l', .err cd a f)) ∧ (∀ j' c' l', telP (hd T n) false l j c = (l', .ok j' c') → j' ≤ n ∧ telR T b l c0 i0 = telR T b l' c' j') := by
  refine telP_ind (S := hd T n) (fin := false) (P := fun l j c r => j ≤ n → (j < n → c = false ∧ gapS T false j = (j, false)) → ∀ c0 i0, gapS T c0 i0 = (if j < n then (j, c) else gapS T c n) →
    (∀ cd a f l', r = (l', .err cd a f) → telR T b l c0 i0 = (l', .err cd a f)) ∧ (∀ j' c' l', r = (l', .ok j' c') → j' ≤ n ∧ telR T b l c0 i0 = telR T b l' c' j')) (fun l j c h hj hc c0 i0 hg => ?_) (fun l j c h _ hlk hj hc c0 i0 hg => ?_) (fun l j c cd a h hlk h1 h2 h3 hj hc c0 i0 hg => ?_) (fun l j c k t e r h hlk he h3 ht ih hj hc c0 i0 hg => ?_) _ l j c (Nat.le_refl _)
  · rw [hd_size hn] at h
    refine ⟨fun cd a f l' e => by simp at e, fun j' c' l' e => ?_⟩
    simp only [Prod.mk.injEq, Fi.ok.injEq] at e
    obtain ⟨rfl, rfl, rfl⟩ := e
    obtain rfl : j = n := by omega
    rw [if_neg h] at hg
    exact ⟨hj, by unfold telR; rw [hg]⟩
  · rw [hd_size hn] at h
    refine ⟨fun cd a f l' e => by simp at e, fun j' c' l' e => ?_⟩
    simp only [Prod.mk.injEq, Fi.ok.injEq] at e
    obtain ⟨rfl, rfl, rfl⟩ := e
    obtain ⟨hcf, hgj⟩ := hc h
    subst hcf
    rw [if_pos h] at hg
    exact ⟨hj, by unfold telR; rw [hg, hgj]⟩
  · rw [hd_size hn] at h
    refine ⟨fun cd' a' f l' e => ?_, fun j' c' l' e => by simp at e⟩
    simp only [Prod.mk.injEq, Fi.err.injEq] at e
    obtain ⟨rfl, rfl, rfl, rfl⟩ := e
    rw [if_pos h] at hg
    unfold telR
    rw [hg]
    exact telP_bad (by omega) (by rw [hd_lk hn h (by rw [hlk]; simp), hlk])
  · rw [hd_size hn] at h h3
    rw [if_pos h] at hg
    have hlk' : lk T j b = .whl k t e := by rw [hd_lk hn h (by rw [hlk]; simp), hlk]
    have htok : tok (hd T n) k t j e = tok T k t j e := by unfold tok; rw [hd_lc hn (Nat.le_of_lt h)]
    have hge := gapS_ge (hd T n) false e
    rw [hd_size hn] at hge
    have hgap := hd_gap hn (c := false) h3
    have hstep : telR T b l c0 i0 = telR T b (l ++ [tok T k t j e]) false e := by
      unfold telR
      rw [hg]
      exact telP_whl (by omega) hlk' he
    rw [hstep]
    rw [htok] at ih
    refine ih (hge.2 h3) (fun hlt => ?_) false e hgap
    have hat := gapS_at (hd T n) false e (by rw [hd_size hn]; exact hlt)
    rw [hd_bt hn hlt] at hat
    exact ⟨hat.1, gapS_stop (by omega) hat.2.1 hat.2.2⟩

theorem hd_telR (hn : n ≤ T.size) {l : List TK} {c : Bool} {i : Nat} (hi : i ≤ n) :
    (∀ cd a f l', telR (hd T n) false l c i = (l', .err cd a f) → telR T b l c i = (l', .err cd a f)) ∧ (∀ j' c' l', telR (hd T n) false l c i = (l', .ok j' c') → j' ≤ n ∧ telR T b l c i = telR T b l' c' j') := by
  have hge := gapS_ge (hd T n) c i
  rw [hd_size hn] at hge
  refine hd_tel hn (l := l) (hge.2 hi) (fun hlt => ?_) c i ?_
  · have hat := gapS_at (hd T n) c i (by rw [hd_size hn]; exact hlt)
    rw [hd_bt hn hlt] at hat
    exact ⟨hat.1, gapS_stop (by omega) hat.2.1 hat.2.2⟩
  · exact hd_gap hn hi
end

end Go.FK


/- Tokens: New, Feed, End, At, All; TokensReads. -/
namespace Go.FK

variable {S : ByteArray}

/-! ### A piece more -/
theorem app_hd (S P : ByteArray) : hd (S ++ P) S.size = S := by
  exact ByteArray.extract_append_eq_left rfl
theorem app_rst (S P : ByteArray) {i : Nat} (hi : i ≤ S.size) : rst S i ++ P = rst (S ++ P) i := by
  have h1 : rst (S ++ P) i = (S ++ P).extract i S.size ++ (S ++ P).extract S.size (S ++ P).size := by
    rw [ByteArray.extract_append_extract, Nat.min_eq_left hi, Nat.max_eq_right (by rw [ByteArray.size_append]; omega)]
    rfl
  have h2 : (S ++ P).extract i S.size = rst S i := by
    rw [← hd_ext (T := S ++ P) (n := S.size) (Nat.le_refl _), app_hd]
    rfl
  have h3 : (S ++ P).extract S.size (S ++ P).size = P := by
    exact ByteArray.extract_append_eq_right rfl (by rw [ByteArray.size_append])
  rw [h1, h2, h3]
theorem app_plc (S P : ByteArray) {i : Nat} (hi : i ≤ S.size) : plc S i = plc (S ++ P) i := by
  have := hd_lc (T := S ++ P) (n := S.size) (by rw [ByteArray.size_append]; omega) hi
  rw [app_hd] at this
  unfold plc
  rw [this]

/-! ### The program's functions -/
def emp : ByteArray := ByteArray.mk #[]
theorem emp_scn : scn emp 1 0 false 0 = ((1 : Int), ByteArray.mk #[], false, ((0 : Int), ByteArray.mk #[], (0 : Int), (0 : Int), (1 : Int), (1 : Int)), (0 : Int)) := by
  unfold scn
  rw [rst_zero]
  rfl
theorem new_ev : Ev (fun k => tokens_New.f k ()) [scn emp 1 0 false 0] := by
  rw [emp_scn]
  exact ⟨0, fun k _ => rfl⟩
theorem emp_app (S : ByteArray) : emp ++ S = S := by
  apply bytes_inj'
  rw [ByteArray.data_append, Array.toList_append]
  rfl

theorem ans_open {s : SC} (h : s.1 = 1) : Ev (fun k => tokens_Scanner_answers.f k s) (s, (0 : Int), false) := by
  unfold tokens_Scanner_answers.f tokens_Scanner_answers.e
  rw [h]
  exact Ev.fls rfl (Ev.fls rfl (Ev.fls rfl Ev.pure))
theorem feed_ev {S P : ByteArray} (hS : (S ++ P).size ≤ 4294967280) {i : Nat} (hi : i ≤ S.size) (c : Bool) : Ev (fun k => tokens_Scanner_Feed.f k (scn S 1 i c 0) P) (encS (S ++ P) (telR (S ++ P) false [] c i)) := by
  have hle : i ≤ (S ++ P).size := by rw [ByteArray.size_append]; omega
  have := tell_ev (fin := false) hS hle c
  unfold tokens_Scanner_Feed.f tokens_Scanner_Feed.e
  refine Ev.bind (ans_open rfl) (Ev.fls rfl (Ev.fls ?_ ?_))
  · have h1 : (rst S i).size + P.size ≤ (S ++ P).size := by rw [rst_size, ByteArray.size_append]; omega
    refine dec_f ?_
    show ¬ ((((rst S i).size + P.size : Nat) : Int) > 9223372036854775807)
    omega
  · have e : ((scn S 1 i c 0).1, (scn S 1 i c 0).2.1 ++ P, (scn S 1 i c 0).2.2.1, (scn S 1 i c 0).2.2.2.1, (scn S 1 i c 0).2.2.2.2) = scn (S ++ P) 1 i c 0 := by
      unfold scn
      simp only
      rw [app_rst S P hi, app_plc S P hi]
    show Ev (fun k => Option.bind (tokens_Scanner_tell.f k ((scn S 1 i c 0).1, (scn S 1 i c 0).2.1 ++ P, (scn S 1 i c 0).2.2.1, (scn S 1 i c 0).2.2.2.1, (scn S 1 i c 0).2.2.2.2) false) fun r2 => some (r2.1, r2.2.1, r2.2.2)) _
    rw [e]
    exact Ev.bind this Ev.pure
def encE (S : ByteArray) : List TK × Fi → SC × List TK × Int
  | (l, .ok j c) => (scn S 2 j c 0, l, 0)
  | (l, .err cd a c) => (scn S 3 a c cd, l, cd)
theorem end_ev (hS : S.size ≤ 4294967280) {i : Nat} (hi : i ≤ S.size) (c : Bool) : Ev (fun k => tokens_Scanner_End.f k (scn S 1 i c 0)) (encE S (telR S true [] c i)) := by
  have := tell_ev (fin := true) hS hi c
  have hf : FiOk S _ (telR S true [] c i).2 := telP_fi ((gapS_ge S c i).2 hi)
  unfold tokens_Scanner_End.f tokens_Scanner_End.e
  refine Ev.bind (ans_open rfl) (Ev.fls rfl (Ev.bind this ?_))
  generalize telR S true [] c i = r at *
  obtain ⟨l, f⟩ := r
  cases f with
  | ok j c' => exact Ev.tru rfl (Ev.turn (fun k => tokens_Scanner_End.p15_succ k _ _ _) Ev.pure)
  | err cd a c' =>
    have h0 : cd ≠ 0 := by
      have := hf.2.2
      omega
    exact Ev.fls (dec_f h0) (Ev.turn (fun k => tokens_Scanner_End.p15_succ k _ _ _) Ev.pure)
theorem at_ev {s : SC} (h : s.1 ≠ 0) : Ev (fun k => tokens_Scanner_At.f k s) (s, s.2.2.2.1) := by
  unfold tokens_Scanner_At.f tokens_Scanner_At.e
  exact Ev.fls (dec_f h) Ev.pure

/-! ### All -/
def zTK : TK := ((0 : Int), ByteArray.mk #[], (0 : Int), (0 : Int), (0 : Int), (0 : Int))
def encA (S : ByteArray) : List TK × Fi → List TK × Int × TK
  | (l, .ok _ _) => (l, 0, zTK)
  | (l, .err cd a _) => (l, cd, plc S a)

theorem hd_self (S : ByteArray) : hd S S.size = S := by
  exact ByteArray.extract_zero_size

theorem all_ev (hS : S.size ≤ 4294967280) : Ev (fun k => tokens_All.f k S) (encA S (telR S true [] false 0)) := by
  have h15 : ∀ (s : SC) (l : List TK) (e : Int), s.1 ≠ 0 → Ev (fun k => tokens_All.p15 k ((0 : Int), ByteArray.mk #[], (0 : Int), (0 : Int), (0 : Int), (0 : Int)) s l e) (if e = 0 then (l, 0, zTK) else (l, e, s.2.2.2.1)) := by
    intro s l e hs
    refine Ev.turn (fun k => tokens_All.p15_succ k _ _ _ _) ?_
    unfold tokens_All.e15
    by_cases h : e = 0
    · rw [if_pos h]
      exact Ev.fls (by rw [dec_t h]; rfl) Ev.pure
    · rw [if_neg h]
      exact Ev.tru (by rw [dec_f h]; rfl) (Ev.bind (at_ev hs) Ev.pure)
  have hfeed := feed_ev (S := emp) (P := S) (by rw [emp_app]; exact hS) (i := 0) (Nat.zero_le _) false
  rw [emp_app] at hfeed
  have hm := hd_telR (T := S) (n := S.size) (b := true) (Nat.le_refl _) (l := []) (c := false) (i := 0) (Nat.zero_le _)
  rw [hd_self] at hm
  have hf : FiOk S _ (telR S false [] false 0).2 := telP_fi ((gapS_ge S false 0).2 (Nat.zero_le _))
  have hlen : (telR S false [] false 0).1.length ≤ S.size := telP_len (by simp) ((gapS_ge S false 0).2 (Nat.zero_le _))
  unfold tokens_All.f tokens_All.e
  refine Ev.bind new_ev ?_
  show Ev (fun k => Option.bind (tokens_Scanner_Feed.f k (scn emp 1 0 false 0) S) _) _
  refine Ev.bind hfeed ?_
  generalize hr : telR S false [] false 0 = r at *
  obtain ⟨l, f⟩ := r
  cases f with
  | err cd a c =>
    have h0 : cd ≠ 0 := by
      have := hf.2.2
      omega
    rw [hm.1 cd a c l rfl]
    have := h15 (scn S 3 a c cd) l cd (by show (3 : Int) ≠ 0; decide)
    rw [if_neg h0] at this
    exact Ev.fls (dec_f h0) this
  | ok j c =>
    obtain ⟨hj, hm2⟩ := hm.2 j c l rfl
    have hend := end_ev hS hj c
    have hf2 : FiOk S _ (telR S true [] c j).2 := telP_fi ((gapS_ge S c j).2 hj)
    have happ : telR S true l c j = (l ++ (telR S true [] c j).1, (telR S true [] c j).2) := by
      have := telP_app (S := S) (fin := true) (l := []) (j := (gapS S c j).1) (c := (gapS S c j).2) l
      rw [List.append_nil] at this
      exact this
    have hlen2 : (telR S true [] c j).1.length ≤ S.size := telP_len (by simp) ((gapS_ge S c j).2 hj)
    rw [hm2, happ]
    refine Ev.tru rfl (Ev.bind hend ?_)
    generalize telR S true [] c j = r2 at *
    obtain ⟨l2, f2⟩ := r2
    cases f2 with
    | ok j2 c2 =>
      have := h15 (scn S 2 j2 c2 0) (l ++ l2) 0 (by show (2 : Int) ≠ 0; decide)
      rw [if_pos rfl] at this
      refine Ev.tru ?_ this
      have h1 : l.length + l2.length ≤ 8589934560 := by simp only at hlen hlen2; omega
      have h2 : (l.length + l2.length) * 56 ≤ 8589934560 * 56 := Nat.mul_le_mul_right _ h1
      simp only [encS, encE, Bool.and_eq_true, Nat.ble_eq]
      omega
    | err cd a c2 =>
      have h0 : cd ≠ 0 := by
        have := hf2.2.2
        omega
      have := h15 (scn S 3 a c2 cd) (l ++ l2) cd (by show (3 : Int) ≠ 0; decide)
      rw [if_neg h0] at this
      refine Ev.tru ?_ this
      have h1 : l.length + l2.length ≤ 8589934560 := by simp only at hlen hlen2; omega
      have h2 : (l.length + l2.length) * 56 ≤ 8589934560 * 56 := Nat.mul_le_mul_right _ h1
      simp only [encS, encE, Bool.and_eq_true, Nat.ble_eq]
      omega

/-! ### The same tokens -/
end Go.FK


/- Tokens: a text in pieces (TokensPieces). -/
namespace Go.FK

variable {S : ByteArray}
theorem telR_split {S : ByteArray} {fin : Bool} {l : List TK} {c : Bool} {j : Nat} : telR S fin l c j = (l ++ (telR S fin [] c j).1, (telR S fin [] c j).2) := by
  have := telP_app (S := S) (fin := fin) (l := []) (j := (gapS S c j).1) (c := (gapS S c j).2) l
  rw [List.append_nil] at this
  exact this
theorem telR_len {S : ByteArray} {fin : Bool} {c : Bool} {i : Nat} (hi : i ≤ S.size) : (telR S fin [] c i).1.length ≤ S.size := telP_len (by simp) ((gapS_ge S c i).2 hi)

/-- A reading goes on with a piece more. -/
theorem tel_more {T P : ByteArray} {l : List TK} {j : Nat} {c b : Bool} (h : telR T false [] false 0 = (l, .ok j c)) : j ≤ T.size ∧ telR (T ++ P) b [] false 0 = (l ++ (telR (T ++ P) b [] c j).1, (telR (T ++ P) b [] c j).2) := by
  have := (hd_telR (T := T ++ P) (n := T.size) (b := b) (by rw [ByteArray.size_append]; omega) (l := []) (c := false) (i := 0) (Nat.zero_le _)).2 j c l (by rw [app_hd]; exact h)
  rw [telR_split] at this
  refine ⟨this.1, ?_⟩
  have h2 := this.2
  rw [telR_split (l := l)] at h2
  rw [telR_split]
  exact h2
theorem tel_end {T : ByteArray} {l : List TK} {j : Nat} {c : Bool} (h : telR T false [] false 0 = (l, .ok j c)) : telR T true [] false 0 = (l ++ (telR T true [] c j).1, (telR T true [] c j).2) := by
  have := ((hd_telR (T := T) (n := T.size) (b := true) (Nat.le_refl _) (l := []) (c := false) (i := 0) (Nat.zero_le _)).2 j c l (by rw [hd_self]; exact h)).2
  rw [telR_split (l := l)] at this
  exact this
def finE : Fi → Int
  | .ok _ _ => 0
  | .err cd _ _ => cd
section
variable {ps : List ByteArray}
end

end Go.FK


/- Tokens: a text that is cut (TokensCuts). -/
namespace Go.FK

/-! ### Three tokens -/
def xS : ByteArray := ByteArray.mk #[40, 120, 41]
theorem x_b0 : bt xS 0 = 40 := by decide +kernel
theorem x_b1 : bt xS 1 = 120 := by decide +kernel
theorem x_b2 : bt xS 2 = 41 := by decide +kernel
theorem x_tel : ∃ a b c, telR xS true [] false 0 = ([a, b, c], .ok 3 false) ∧ b.2.1 = ByteArray.mk #[120] := by
  have hs : xS.size = 3 := rfl
  have g0 : gapS xS false 0 = (0, false) := gapS_stop (by rw [hs]; decide) (by rw [x_b0]; decide) (by rw [x_b0]; decide)
  have g1 : gapS xS false 1 = (1, false) := gapS_stop (by rw [hs]; decide) (by rw [x_b1]; decide) (by rw [x_b1]; decide)
  have g2 : gapS xS false 2 = (2, false) := gapS_stop (by rw [hs]; decide) (by rw [x_b2]; decide) (by rw [x_b2]; decide)
  have g3 : gapS xS false 3 = (3, false) := gapS_end (by rw [hs]; decide)
  have l0 : lk xS 0 true = .whl 1 (ByteArray.mk #[40]) 1 := by unfold lk; rw [if_pos x_b0]
  have l2 : lk xS 2 true = .whl 2 (ByteArray.mk #[41]) 3 := by unfold lk; rw [if_neg (by rw [x_b2]; decide), if_pos x_b2]
  have hr : runE sgB xS 1 = 2 := by
    rw [runE_yes (by rw [hs]; decide) (by rw [x_b1]; decide), runE_no (by rw [hs]; decide) (by rw [x_b2]; decide)]
  have l1 : lk xS 1 true = .whl 3 (xS.extract 1 2) 2 := by
    unfold lk
    rw [x_b1, if_neg (by decide), if_neg (by decide), if_neg (by decide), if_neg (by decide), if_neg (by decide), if_neg (by decide), if_neg (by decide), if_pos (by decide)]
    unfold wordL wordE
    rw [hr, x_b1, if_neg (by decide), if_neg (by decide), if_neg (by decide)]
  refine ⟨tok xS 1 (ByteArray.mk #[40]) 0 1, tok xS 3 (xS.extract 1 2) 1 2, tok xS 2 (ByteArray.mk #[41]) 2 3, ?_, ?_⟩
  · unfold telR
    rw [g0, telP_whl (by rw [hs]; decide) l0 (by decide), g1, telP_whl (by rw [hs]; decide) l1 (by decide), g2, telP_whl (by rw [hs]; decide) l2 (by decide), g3, telP_end (by rw [hs]; decide)]
    rfl
  · show xS.extract 1 2 = _
    decide +kernel
theorem awake_ev : Ev (fun k => law12_awake.f k ()) true := by
  obtain ⟨a, b, c, h, hb⟩ := x_tel
  have := all_ev (S := xS) (by decide)
  rw [h] at this
  unfold law12_awake.f law12_awake.e
  refine Ev.bind this (Ev.tru rfl (Ev.tru rfl (Ev.tru rfl (Ev.eq ?_))))
  show (b.2.1.toList == (ByteArray.mk #[120]).toList) = true
  rw [hb]
  exact toList_beq _

/-! ### Cuts -/
variable {S : ByteArray}
section
variable {cs : List Int} {want : List TK} {code : Int}

theorem all_enc (r : List TK × Fi) (S : ByteArray) : (encA S r).1 = r.1 ∧ (encA S r).2.1 = finE r.2 := by
  obtain ⟨l, f⟩ := r
  cases f <;> exact ⟨rfl, rfl⟩

end

end Go.FK


/- Tokens: what begins at a place of a text, and of a part of it that is cut out. -/
namespace Go.FK

/-! ### A part of a text -/
section
variable {T : ByteArray} {a n : Nat}
/-- n bytes of a text, from a on. -/
def cut (T : ByteArray) (a n : Nat) : ByteArray := T.extract a (a + n)
theorem cut_size (hn : a + n ≤ T.size) : (cut T a n).size = n := by unfold cut; rw [ext_size T hn]; omega
theorem cut_bt (hn : a + n ≤ T.size) {j : Nat} (h : j < n) : bt (cut T a n) j = bt T (a + j) := bt_ext T hn (by omega)
theorem cut_ext {x y : Nat} (h : y ≤ n) : (cut T a n).extract x y = T.extract (a + x) (a + y) := by
  unfold cut
  rw [ByteArray.extract_extract, Nat.min_eq_left (by omega)]
theorem cut_txt {x y : Nat} (h : y ≤ n) : txt (cut T a n) x y = txt T (a + x) (a + y) := by unfold txt; rw [cut_ext h]

/-- A run that ends within the part. -/
theorem cut_run (hn : a + n ≤ T.size) (p : Int → Bool) : ∀ m i, n - i ≤ m → i ≤ n → runE p T (a + i) ≤ a + n → runE p T (a + i) = a + runE p (cut T a n) i := by
  intro m
  induction m with
  | zero =>
    intro i hm hi h
    obtain rfl : i = n := by omega
    have := runE_le p T (a + i)
    rw [runE_end p (cut T a i) (by rw [cut_size hn]; omega)]
    omega
  | succ m ih =>
    intro i hm hi h
    by_cases hlt : i < n
    · cases hp : p (bt T (a + i)) with
      | true =>
        have hp' : p (bt (cut T a n) i) = true := by rw [cut_bt hn hlt]; exact hp
        rw [runE_yes (by omega) hp] at h ⊢
        rw [runE_yes (by rw [cut_size hn]; exact hlt) hp']
        exact ih (i + 1) (by omega) (by omega) h
      | false =>
        have hp' : p (bt (cut T a n) i) = false := by rw [cut_bt hn hlt]; exact hp
        rw [runE_no (by omega) hp, runE_no (by rw [cut_size hn]; exact hlt) hp']
    · obtain rfl : i = n := by omega
      have := runE_le p T (a + i)
      rw [runE_end p (cut T a i) (by rw [cut_size hn]; omega)]
      omega

/-- What stands there ends: a blank behind it, or nothing at all. -/
def Stop (T : ByteArray) (b : Bool) (q : Nat) : Prop := (q < T.size ∧ bt T q = 32) ∨ (q = T.size ∧ b = true)
theorem Stop.run {b : Bool} (hs : Stop T b (a + n)) {p : Int → Bool} (hp : p 32 = false) : ∀ m i, n - i ≤ m → i ≤ n → runE p T (a + i) ≤ a + n := by
  intro m
  have hend : runE p T (a + n) ≤ a + n := by
    rcases hs with ⟨h1, h2⟩ | ⟨h1, _⟩
    · rw [runE_no h1 (by rw [h2]; exact hp)]; exact Nat.le_refl _
    · rw [runE_end p T (by omega)]; exact Nat.le_refl _
  induction m with
  | zero =>
    intro i hm hi
    obtain rfl : i = n := by omega
    exact hend
  | succ m ih =>
    intro i hm hi
    by_cases hlt : i < n
    · have hq : a + i < T.size := by
        rcases hs with ⟨h1, _⟩ | ⟨h1, _⟩ <;> omega
      cases hp2 : p (bt T (a + i)) with
      | true => rw [runE_yes hq hp2]; exact ih (i + 1) (by omega) (by omega)
      | false => rw [runE_no hq hp2]; omega
    · obtain rfl : i = n := by omega
      exact hend
theorem Stop.cut_run {b : Bool} (hs : Stop T b (a + n)) (hn : a + n ≤ T.size) {p : Int → Bool} (hp : p 32 = false) {i : Nat} (hi : i ≤ n) : runE p T (a + i) = a + runE p (cut T a n) i :=
  Go.FK.cut_run hn p _ i (Nat.le_refl _) hi (hs.run hp _ i (Nat.le_refl _) hi)
theorem cut_run_le (hn : a + n ≤ T.size) (p : Int → Bool) {i : Nat} (hi : i ≤ n) : runE p (cut T a n) i ≤ n := by
  have := runE_size p (cut T a n) (i := i) (by rw [cut_size hn]; exact hi)
  rwa [cut_size hn] at this

/-! ### What the part's whole is, the text has there -/
variable {b : Bool}
theorem Stop.no (hs : Stop T b (a + n)) {e : Nat} (he : e ≤ n) : ¬ (a + e = T.size ∧ b = false) := by
  rintro ⟨h1, h2⟩
  rcases hs with ⟨h3, _⟩ | ⟨h3, h4⟩
  · omega
  · rw [h2] at h4; cases h4
theorem Stop.sg (hs : Stop T b (a + n)) {e : Nat} (he : e = n) : ¬ (a + e < T.size ∧ sgB (bt T (a + e)) = true) := by
  subst he
  rintro ⟨h1, h2⟩
  rcases hs with ⟨_, h3⟩ | ⟨h3, _⟩
  · rw [h3] at h2; cases h2
  · omega
theorem emb_ends (hs : Stop T b (a + n)) (hn : a + n ≤ T.size) {kd k : Int} {x e e' : Nat} {t : ByteArray} (he : e ≤ n) (h : endsL (cut T a n) 0 true kd x e = .whl k t e') : endsL T a b kd (a + x) (a + e) = .whl k t (a + e') := by
  unfold endsL at h ⊢
  rw [if_neg (by simp), cut_size hn] at h
  rw [if_neg (hs.no he)]
  by_cases c : e < n ∧ sgB (bt (cut T a n) e) = true
  · rw [if_pos c] at h; cases h
  · rw [if_neg c, cut_ext he] at h
    cases h
    by_cases hlt : e < n
    · rw [cut_bt hn hlt] at c
      rw [if_neg (fun h => c ⟨hlt, h.2⟩)]
    · rw [if_neg (hs.sg (by omega))]
theorem emb_sharpE (hs : Stop T b (a + n)) (hn : a + n ≤ T.size) {kd k : Int} {e e' : Nat} {t : ByteArray} (he : e ≤ n) (h : sharpE (cut T a n) 0 true kd e = .whl k t e') : sharpE T a b kd (a + e) = .whl k t (a + e') := by
  unfold sharpE at h ⊢
  by_cases c : e = 0 + 2
  · rw [if_pos c, if_neg (by simp)] at h; cases h
  · rw [if_neg c] at h
    rw [if_neg (by omega)]
    have := emb_ends hs hn he h
    exact this
theorem emb_word (hs : Stop T b (a + n)) (hn : a + n ≤ T.size) {kd k : Int} {x e' : Nat} {t : ByteArray} (hx : x ≤ n) (h : wordL (cut T a n) 0 true kd x = .whl k t e') : wordL T a b kd (a + x) = .whl k t (a + e') := by
  unfold wordL at h ⊢
  rw [hs.cut_run hn rfl hx]
  have hle := cut_run_le hn sgB hx
  generalize runE sgB (cut T a n) x = e at *
  unfold wordE at h ⊢
  by_cases c : x < e ∧ digB (bt (cut T a n) x) = true
  · rw [if_pos c] at h; cases h
  · rw [if_neg c, if_neg (by simp)] at h
    have c' : ¬ (a + x < a + e ∧ digB (bt T (a + x)) = true) := by
      rintro ⟨h1, h2⟩
      exact c ⟨by omega, by rw [cut_bt hn (by omega)]; exact h2⟩
    rw [if_neg c', if_neg (hs.no hle)]
    by_cases c2 : e = x
    · rw [if_pos c2] at h; cases h
    · rw [if_neg c2, cut_ext hle] at h
      cases h
      rw [if_neg (by omega)]
theorem emb_num (hs : Stop T b (a + n)) (hn : a + n ≤ T.size) {k : Int} {e' : Nat} {t : ByteArray} (hx : 0 < n) (h : numL (cut T a n) 0 true = .whl k t e') : numL T a b = .whl k t (a + e') := by
  unfold numL at h ⊢
  have hr := hs.cut_run hn (p := digB) rfl (Nat.zero_le n)
  rw [Nat.add_zero] at hr
  rw [hr]
  have hle := cut_run_le hn digB (Nat.zero_le n)
  have h0 := cut_bt hn hx
  rw [Nat.add_zero] at h0
  rw [h0] at h
  generalize runE digB (cut T a n) 0 = e at *
  by_cases c : 0 + 1 < e ∧ bt T a = 48
  · rw [if_pos c] at h; cases h
  · rw [if_neg c] at h
    rw [if_neg (fun h => c ⟨by omega, h.2⟩)]
    unfold numE at h ⊢
    rw [cut_size hn] at h
    by_cases c2 : e < n ∧ bt (cut T a n) e = 46
    · have c3 := c2.2
      rw [cut_bt hn c2.1] at c3
      rw [if_pos c2] at h
      rw [if_pos ⟨by omega, c3⟩]
      have hr2 := hs.cut_run hn (p := digB) rfl (i := e + 1) (by omega)
      have hle2 := cut_run_le hn digB (i := e + 1) (by omega)
      rw [Nat.add_assoc, hr2]
      generalize runE digB (cut T a n) (e + 1) = f at *
      by_cases c4 : f = e + 1
      · rw [if_pos c4, if_neg (by simp)] at h; cases h
      · rw [if_neg c4] at h
        rw [if_neg (by omega)]
        have := emb_ends hs hn hle2 h
        exact this
    · rw [if_neg c2] at h
      have c3 : ¬ (a + e < T.size ∧ bt T (a + e) = 46) := by
        rintro ⟨h1, h2⟩
        by_cases hlt : e < n
        · exact c2 ⟨hlt, by rw [cut_bt hn hlt]; exact h2⟩
        · obtain rfl : e = n := by omega
          rcases hs with ⟨_, h3⟩ | ⟨h3, _⟩
          · omega
          · omega
      rw [if_neg c3]
      exact emb_ends (x := 0) hs hn hle h
theorem emb_bar (hn : a + n ≤ T.size) {k : Int} {t : ByteArray} {e' : Nat} : ∀ m j, n - j ≤ m → barE (cut T a n) 0 true j = .whl k t e' → barE T a b (a + j) = .whl k t (a + e') := by
  intro m
  induction m with
  | zero =>
    intro j hm h
    rw [barE_end (by rw [cut_size hn]; omega)] at h
    cases h
  | succ m ih =>
    intro j hm h
    by_cases hj : j < n
    · rw [barE_step (by rw [cut_size hn]; exact hj), cut_bt hn hj, cut_ext (Nat.le_of_lt hj)] at h
      rw [barE_step (by omega)]
      by_cases c1 : bt T (a + j) = 124
      · rw [if_pos c1] at h
        rw [if_pos c1]
        cases h
        rfl
      · rw [if_neg c1] at h
        rw [if_neg c1]
        by_cases c2 : quoB (bt T (a + j)) = false ∨ bt T (a + j) = 92
        · rw [if_pos c2] at h; cases h
        · rw [if_neg c2] at h
          rw [if_neg c2]
          exact ih (j + 1) (by omega) h
    · rw [barE_end (by rw [cut_size hn]; exact hj)] at h
      cases h
theorem emb_text (hs : Stop T b (a + n)) (hn : a + n ≤ T.size) {k : Int} {t : ByteArray} {e' : Nat} : ∀ m j, n - j ≤ m → textE (cut T a n) 0 true j = .whl k t e' → textE T a b (a + j) = .whl k t (a + e') := by
  intro m
  induction m with
  | zero =>
    intro j hm h
    rw [textE_end (by rw [cut_size hn]; omega)] at h
    cases h
  | succ m ih =>
    intro j hm h
    by_cases hj : j < n
    · by_cases hq : bt T (a + j) = 34
      · rw [textE_quote (by rw [cut_size hn]; exact hj) (by rw [cut_bt hn hj]; exact hq), cut_size hn, cut_txt (Nat.le_of_lt hj)] at h
        rw [textE_quote (by omega) hq]
        by_cases c1 : j + 1 < n
        · rw [cut_bt hn c1] at h
          by_cases c2 : bt T (a + (j + 1)) = 34
          · rw [if_pos ⟨c1, c2⟩] at h
            rw [if_pos ⟨by omega, c2⟩]
            exact ih (j + 2) (by omega) h
          · rw [if_neg (fun h => c2 h.2), if_neg (by simp)] at h
            rw [if_neg (fun h => c2 h.2), if_neg (fun h => by omega)]
            cases h
            rfl
        · rw [if_neg (fun h => c1 h.1), if_neg (by simp)] at h
          have c3 : ¬ (a + j + 1 < T.size ∧ bt T (a + j + 1) = 34) := by
            rintro ⟨h1, h2⟩
            rw [show a + j + 1 = a + n by omega] at h1 h2
            rcases hs with ⟨_, h3⟩ | ⟨h3, _⟩ <;> omega
          have c4 : ¬ (a + j + 1 = T.size ∧ b = false) := hs.no (e := j + 1) (by omega)
          rw [if_neg c3, if_neg c4]
          cases h
          rfl
      · rw [textE_step (by rw [cut_size hn]; exact hj) (by rw [cut_bt hn hj]; exact hq), cut_bt hn hj] at h
        rw [textE_step (by omega) hq]
        by_cases c1 : quoB (bt T (a + j)) = false
        · rw [if_pos c1] at h; cases h
        · rw [if_neg c1] at h
          rw [if_neg c1]
          exact ih (j + 1) (by omega) h
    · rw [textE_end (by rw [cut_size hn]; exact hj)] at h
      cases h
/-- What the part as a text of its own begins with, the text has there. -/
theorem emb_lk (hs : Stop T b (a + n)) (hn : a + n ≤ T.size) (h0 : 0 < n) {k : Int} {t : ByteArray} {e' : Nat} (h : lk (cut T a n) 0 true = .whl k t e') : lk T a b = .whl k t (a + e') := by
  have hb := cut_bt hn h0
  rw [Nat.add_zero] at hb
  unfold lk at h ⊢
  rw [hb] at h
  by_cases c1 : bt T a = 40
  · rw [if_pos c1] at h ⊢
    cases h; rfl
  rw [if_neg c1] at h; rw [if_neg c1]
  by_cases c2 : bt T a = 41
  · rw [if_pos c2] at h ⊢
    cases h; rfl
  rw [if_neg c2] at h; rw [if_neg c2]
  by_cases c3 : bt T a = 124
  · rw [if_pos c3] at h ⊢
    exact emb_bar hn _ _ (Nat.le_refl _) h
  rw [if_neg c3] at h; rw [if_neg c3]
  by_cases c4 : bt T a = 34
  · rw [if_pos c4] at h ⊢
    exact emb_text hs hn _ _ (Nat.le_refl _) h
  rw [if_neg c4] at h; rw [if_neg c4]
  by_cases c5 : bt T a = 35
  · rw [if_pos c5] at h ⊢
    unfold sharpL at h ⊢
    rw [cut_size hn] at h
    by_cases d1 : 0 + 1 = n
    · rw [if_pos d1, if_pos rfl] at h; cases h
    · rw [if_neg d1, Nat.zero_add, cut_bt hn (show 1 < n by omega)] at h
      rw [if_neg (by omega)]
      by_cases d2 : bt T (a + 1) = 120
      · rw [if_pos d2] at h ⊢
        have := emb_sharpE hs hn (cut_run_le hn hexB (i := 0 + 2) (by omega)) h
        rw [← hs.cut_run hn rfl (by omega)] at this
        exact this
      rw [if_neg d2] at h; rw [if_neg d2]
      by_cases d3 : bt T (a + 1) = 98
      · rw [if_pos d3] at h ⊢
        have := emb_sharpE hs hn (cut_run_le hn twoB (i := 0 + 2) (by omega)) h
        rw [← hs.cut_run hn rfl (by omega)] at this
        exact this
      · rw [if_neg d3] at h; cases h
  rw [if_neg c5] at h; rw [if_neg c5]
  by_cases c6 : bt T a = 58
  · rw [if_pos c6] at h ⊢
    exact emb_word hs hn (x := 0 + 1) (by omega) h
  rw [if_neg c6] at h; rw [if_neg c6]
  by_cases c7 : digB (bt T a) = true
  · rw [if_pos c7] at h ⊢
    exact emb_num hs hn h0 h
  rw [if_neg c7] at h; rw [if_neg c7]
  by_cases c8 : sgB (bt T a) = true
  · rw [if_pos c8] at h ⊢
    exact emb_word hs hn (x := 0) (Nat.zero_le _) h
  · rw [if_neg c8] at h; cases h
end

/-! ### Sizes and kinds of what is whole -/
section
variable {S : ByteArray} {i : Nat} {fin : Bool}
/-- What a whole token's text has in bytes, by its kind. -/
def LenL (i : Nat) : Lk → Prop
  | .opn => True
  | .bad _ _ => True
  | .whl k t e => 1 ≤ k ∧ k ≤ 9 ∧ t.size ≤ e - i ∧ ((k = 1 ∨ k = 2 ∨ k = 5 ∨ k = 6) → t.size = e - i) ∧ ((k = 7 ∨ k = 8) → t.size + 2 = e - i)
theorem len_quote {i : Nat} : LenL i (if fin = true then .bad 121 i else .opn) := by cases fin <;> exact trivial
theorem len_ends {kd : Int} {x e : Nat} (h : e ≤ S.size) (hi : i ≤ x) (hx : x ≤ e) (h1 : (kd = 5 ∨ kd = 6) ∧ x = i ∨ (kd = 7 ∨ kd = 8) ∧ x = i + 2) : LenL i (endsL S i fin kd x e) := by
  unfold endsL
  split
  · exact trivial
  · split
    · exact trivial
    · refine ⟨by omega, by omega, ?_, ?_, ?_⟩ <;> rw [ext_size S h] <;> omega
theorem len_sharpE {kd : Int} {e : Nat} (h : e ≤ S.size) (h2 : i + 2 ≤ e) (h1 : kd = 7 ∨ kd = 8) : LenL i (sharpE S i fin kd e) := by
  unfold sharpE
  split
  · split <;> exact trivial
  · exact len_ends h (by omega) h2 (.inr ⟨h1, rfl⟩)
theorem len_word {kd : Int} {x : Nat} (hx : x ≤ S.size) (hi : i ≤ x) (h1 : kd = 3 ∨ kd = 4) : LenL i (wordL S i fin kd x) := by
  unfold wordL wordE
  have h2 := runE_size sgB S hx
  split
  · exact trivial
  · split
    · exact trivial
    · split
      · exact trivial
      · refine ⟨by omega, by omega, ?_, fun h => ?_, fun h => ?_⟩
        · rw [ext_size S h2]; omega
        · omega
        · omega
theorem len_num (hi : i < S.size) : LenL i (numL S i fin) := by
  unfold numL numE
  have h1 := runE_le digB S i
  have h2 := runE_size digB S (Nat.le_of_lt hi)
  split
  · exact trivial
  · split
    · rename_i h
      have h3 := runE_le digB S (runE digB S i + 1)
      have h4 := runE_size digB S (i := runE digB S i + 1) (by omega)
      split
      · split <;> exact trivial
      · exact len_ends h4 (Nat.le_refl _) (by omega) (.inl ⟨.inr rfl, rfl⟩)
    · exact len_ends h2 (Nat.le_refl _) h1 (.inl ⟨.inl rfl, rfl⟩)
theorem len_bar : ∀ m j, S.size - j ≤ m → i < j → LenL i (barE S i fin j) := by
  intro m
  induction m with
  | zero =>
    intro j hm _
    rw [barE_end (by omega)]
    exact len_quote
  | succ m ih =>
    intro j hm hij
    by_cases h : j < S.size
    · rw [barE_step h]
      split
      · refine ⟨by omega, by omega, ?_, fun h => by omega, fun h => by omega⟩
        rw [ext_size S (Nat.le_of_lt h)]; omega
      · split
        · exact trivial
        · exact ih (j + 1) (by omega) (by omega)
    · rw [barE_end h]
      exact len_quote
theorem len_txt {x y : Nat} (h : y ≤ S.size) : (txt S x y).size ≤ y - x := by
  have h1 : (txt S x y).size = (dq (S.extract x y).data.toList).length := by
    show (dq (S.extract x y).data.toList).toArray.size = _
    simp
  have h2 := dq_len _ (S.extract x y).data.toList (Nat.le_refl _)
  have h3 : (S.extract x y).data.toList.length = (S.extract x y).size := Array.length_toList
  rw [h3, ext_size S h] at h2
  omega
theorem len_text : ∀ m j, S.size - j ≤ m → i < j → LenL i (textE S i fin j) := by
  intro m
  induction m with
  | zero =>
    intro j hm _
    rw [textE_end (by omega)]
    exact len_quote
  | succ m ih =>
    intro j hm hij
    by_cases h : j < S.size
    · by_cases hq : bt S j = 34
      · rw [textE_quote h hq]
        split
        · exact ih (j + 2) (by omega) (by omega)
        · split
          · exact trivial
          · refine ⟨by omega, by omega, ?_, fun h => by omega, fun h => by omega⟩
            have := len_txt (S := S) (x := i + 1) (y := j) (Nat.le_of_lt h)
            omega
      · rw [textE_step h hq]
        split
        · exact trivial
        · exact ih (j + 1) (by omega) (by omega)
    · rw [textE_end h]
      exact len_quote
theorem len_lk (hi : i < S.size) : LenL i (lk S i fin) := by
  unfold lk
  split
  · exact ⟨by omega, by omega, by show 1 ≤ _; omega, fun _ => by show 1 = _; omega, fun h => by omega⟩
  split
  · exact ⟨by omega, by omega, by show 1 ≤ _; omega, fun _ => by show 1 = _; omega, fun h => by omega⟩
  split
  · exact len_bar _ _ (Nat.le_refl _) (by omega)
  split
  · exact len_text _ _ (Nat.le_refl _) (by omega)
  split
  · unfold sharpL
    split
    · split <;> exact trivial
    · split
      · exact len_sharpE (runE_size _ _ (by omega)) (runE_le _ _ _) (.inl rfl)
      · split
        · exact len_sharpE (runE_size _ _ (by omega)) (runE_le _ _ _) (.inr rfl)
        · exact trivial
  split
  · exact len_word (by omega) (by omega) (.inr rfl)
  split
  · exact len_num hi
  split
  · exact len_word (Nat.le_of_lt hi) (Nat.le_refl _) (.inl rfl)
  · exact trivial
/-- What is whole begins with no blank and no comment. -/
theorem lk_front {k : Int} {t : ByteArray} {e : Nat} (h : lk S i fin = .whl k t e) : bt S i ≠ 59 ∧ blkB (bt S i) = false := by
  have hb := bt_in S i
  unfold lk at h
  generalize bt S i = x at *
  by_cases c : x = 59 ∨ blkB x = true
  · exfalso
    have hx : x = 59 ∨ x = 9 ∨ x = 10 ∨ x = 13 ∨ x = 32 := by
      rcases c with c | c
      · exact .inl c
      · unfold blkB at c
        simp only [Bool.or_eq_true, decide_eq_true_eq] at c
        omega
    rw [if_neg (by omega), if_neg (by omega), if_neg (by omega), if_neg (by omega), if_neg (by omega), if_neg (by omega)] at h
    rcases hx with rfl | rfl | rfl | rfl | rfl <;> rw [if_neg (by decide), if_neg (by decide)] at h <;> cases h
  · refine ⟨fun h => c (.inl h), ?_⟩
    cases hc : blkB x with
    | false => rfl
    | true => exact absurd (.inr hc) c
end

end Go.FK


/- Tokens: what is printed is read again; what was read can be printed. -/
namespace Go.FK

/-! ### Texts put together -/
theorem bt_left {A B : ByteArray} {j : Nat} (h : j < A.size) : bt (A ++ B) j = bt A j := by
  have := hd_bt (T := A ++ B) (n := A.size) (by rw [ByteArray.size_append]; omega) h
  rw [app_hd] at this
  exact this.symm
theorem cut_right (A B : ByteArray) : cut (A ++ B) A.size B.size = B := by
  unfold cut
  exact ByteArray.extract_append_eq_right rfl rfl
theorem bt_right {A B : ByteArray} {j : Nat} (h : j < B.size) : bt (A ++ B) (A.size + j) = bt B j := by
  have := cut_bt (T := A ++ B) (a := A.size) (n := B.size) (by rw [ByteArray.size_append]; exact Nat.le_refl _) h
  rw [cut_right] at this
  exact this.symm
theorem cut_mid (A B C : ByteArray) : cut (A ++ B ++ C) A.size B.size = B := by
  have h1 : cut (A ++ B ++ C) A.size B.size = (hd (A ++ B ++ C) (A ++ B).size).extract A.size (A.size + B.size) := by
    rw [hd_ext (by rw [ByteArray.size_append]; exact Nat.le_refl _)]
    rfl
  rw [h1, app_hd]
  exact cut_right A B
theorem list_size (l : List UInt8) : (ByteArray.mk l.toArray).size = l.length := by
  show l.toArray.size = _
  simp
theorem self_list (t : ByteArray) : ByteArray.mk t.data.toList.toArray = t := by
  apply bytes_inj'
  simp
theorem bt_list {l : List UInt8} {j : Nat} (h : j < l.length) : bt (ByteArray.mk l.toArray) j = ((l[j]'h).toNat : Int) := by
  unfold bt
  rw [get!_eq _ (by rw [list_size]; exact h)]
  rfl
theorem bt_mem {t : ByteArray} {j : Nat} (h : j < t.size) : ∃ x ∈ t.data.toList, bt t j = (x.toNat : Int) := by
  refine ⟨t[j]'h, ?_, ?_⟩
  · show t.data[j] ∈ _
    exact Array.getElem_mem_toList _
  · unfold bt
    rw [get!_eq _ h]
theorem mem_bt {t : ByteArray} {x : UInt8} (h : x ∈ t.data.toList) : ∃ j, j < t.size ∧ bt t j = (x.toNat : Int) := by
  obtain ⟨j, hj, rfl⟩ := List.getElem_of_mem h
  have hj' : j < t.size := by rwa [Array.length_toList] at hj
  refine ⟨j, hj', ?_⟩
  unfold bt
  rw [get!_eq _ hj']
  rw [Array.getElem_toList]
  rfl

/-! ### Kinds of texts -/
def AllB (p : Int → Bool) (t : ByteArray) : Prop := ∀ j, j < t.size → p (bt t j) = true
instance (p : Int → Bool) (t : ByteArray) : Decidable (AllB p t) := inferInstanceAs (Decidable (∀ j, j < t.size → p (bt t j) = true))
/-- A name that is written without bars. -/
def Pl (t : ByteArray) : Prop := 0 < t.size ∧ digB (bt t 0) = false ∧ AllB sgB t
instance (t : ByteArray) : Decidable (Pl t) := inferInstanceAs (Decidable (0 < t.size ∧ digB (bt t 0) = false ∧ AllB sgB t))
def brB (x : Int) : Bool := quoB x && decide (x ≠ 124) && decide (x ≠ 92)
theorem all_run {p : Int → Bool} {S : ByteArray} : ∀ m i, S.size - i ≤ m → i ≤ S.size → (∀ j, i ≤ j → j < S.size → p (bt S j) = true) → runE p S i = S.size := by
  intro m
  induction m with
  | zero => intro i hm hi _; rw [runE_end p S (by omega)]; omega
  | succ m ih =>
    intro i hm hi h
    by_cases hlt : i < S.size
    · rw [runE_yes hlt (h i (Nat.le_refl _) hlt)]
      exact ih (i + 1) (by omega) (by omega) (fun j h1 h2 => h j (by omega) h2)
    · rw [runE_end p S hlt]; omega
theorem run_all (p : Int → Bool) (S : ByteArray) : ∀ m i, S.size - i ≤ m → ∀ j, i ≤ j → j < runE p S i → p (bt S j) = true := by
  intro m
  induction m with
  | zero => intro i hm j h1 h2; rw [runE_end p S (by omega)] at h2; omega
  | succ m ih =>
    intro i hm j h1 h2
    by_cases hlt : i < S.size
    · cases hp : p (bt S i) with
      | true =>
        rw [runE_yes hlt hp] at h2
        by_cases hj : j = i
        · subst hj; exact hp
        · exact ih (i + 1) (by omega) j (by omega) h2
      | false =>
        rw [runE_no hlt hp] at h2
        omega
    · rw [runE_end p S hlt] at h2; omega
theorem sg_not {x : Int} (h : 0 ≤ x ∧ x < 256) (hs : sgB x = true) : x ≠ 40 ∧ x ≠ 41 ∧ x ≠ 124 ∧ x ≠ 34 ∧ x ≠ 35 ∧ x ≠ 58 :=
  fin_byte (p := fun x => sgB x = true → x ≠ 40 ∧ x ≠ 41 ∧ x ≠ 124 ∧ x ≠ 34 ∧ x ≠ 35 ∧ x ≠ 58) h (by decide +kernel) hs

/-! ### Doubled quotes -/
def ddq : List UInt8 → List UInt8
  | [] => []
  | b :: l => if b = 34 then 34 :: 34 :: ddq l else b :: ddq l
theorem dq_ddq : ∀ l, dq (ddq l) = l
  | [] => rfl
  | b :: l => by
    unfold ddq
    by_cases h : b = 34
    · rw [if_pos h, dq_two, dq_ddq l, h]
    · rw [if_neg h, dq_cons h, dq_ddq l]
theorem ddq_len : ∀ l, (ddq l).length ≤ 2 * l.length
  | [] => Nat.le_refl _
  | b :: l => by
    have := ddq_len l
    unfold ddq
    split
    · simp only [List.length_cons]; omega
    · simp only [List.length_cons]; omega
theorem dq_mem {x : UInt8} : ∀ (n : Nat) {l : List UInt8}, l.length ≤ n → x ∈ dq l → x ∈ l := by
  intro n
  induction n with
  | zero =>
    intro l hl h
    obtain rfl : l = [] := List.eq_nil_of_length_eq_zero (by omega)
    exact h
  | succ n ih =>
    intro l hl h
    match l, hl, h with
    | [], _, h => exact h
    | [b], _, h => exact h
    | b :: c :: l, hl, h =>
      simp only [List.length_cons] at hl
      rw [dq] at h
      split at h
      · rename_i hb
        simp only [List.mem_cons] at h ⊢
        rcases h with h | h
        · exact .inl (h.trans hb.1.symm)
        · exact .inr (.inr (ih (by omega) h))
      · have := h
        simp only [List.mem_cons] at h
        rcases h with h | h
        · exact List.mem_cons.2 (.inl h)
        · exact List.mem_cons.2 (.inr (ih (by simp; omega) h))
theorem replace_ddq : ∀ (l : List UInt8), Go.Lib.replaceAll l [34] [34, 34] = ddq l := by
  have hne : ([34] : List UInt8) ≠ [34, 34] := by decide
  have ho : ([34] : List UInt8) ≠ [] := by decide
  intro l
  induction l with
  | nil => rw [replaceAll_nil hne ho]; rfl
  | cons b l ih =>
    have hp : ([34] : List UInt8).isPrefixOf (b :: l) = ((34 == b) && true) := by
      show ((34 == b) && List.isPrefixOf [] l) = _
      cases l <;> rfl
    unfold ddq
    by_cases hb : b = 34
    · subst hb
      rw [replaceAll_hit hne ho rfl, if_pos rfl]
      show [34, 34] ++ Go.Lib.replaceAll l [34] [34, 34] = _
      rw [ih]
      rfl
    · rw [replaceAll_miss hne ho (by rw [hp, beq_eq_false_iff_ne.2 (Ne.symm hb)]; rfl), ih, if_neg hb]

/-! ### What is printed is read -/
def bar1 : ByteArray := ByteArray.mk #[124]
def quo1 : ByteArray := ByteArray.mk #[34]
def col1 : ByteArray := ByteArray.mk #[58]
def dqt (t : ByteArray) : ByteArray := ByteArray.mk (ddq t.data.toList).toArray

theorem ext_self (S : ByteArray) : S.extract 0 S.size = S := ByteArray.extract_zero_size
theorem rd_plain {t : ByteArray} (h : Pl t) : lk t 0 true = .whl 3 t t.size := by
  obtain ⟨h0, hd, ha⟩ := h
  have hs := ha 0 h0
  obtain ⟨n1, n2, n3, n4, n5, n6⟩ := sg_not (bt_in t 0) hs
  unfold lk
  rw [if_neg n1, if_neg n2, if_neg n3, if_neg n4, if_neg n5, if_neg n6, if_neg (by rw [hd]; decide), if_pos hs]
  unfold wordL wordE
  rw [all_run _ 0 (Nat.le_refl _) (Nat.zero_le _) (fun j _ h => ha j h), if_neg (by rw [hd]; simp), if_neg (by simp), if_neg (by omega), ext_self]
theorem rd_key {t : ByteArray} (h : Pl t) : lk (col1 ++ t) 0 true = .whl 4 t (col1 ++ t).size := by
  obtain ⟨h0, hd, ha⟩ := h
  have e0 : bt (col1 ++ t) 0 = 58 := bt_left (A := col1) (B := t) (j := 0) (by decide)
  have es : (col1 ++ t).size = 1 + t.size := ByteArray.size_append
  have ej : ∀ j, j < t.size → bt (col1 ++ t) (1 + j) = bt t j := fun j h => bt_right (A := col1) (B := t) h
  unfold lk
  rw [e0, if_neg (by decide), if_neg (by decide), if_neg (by decide), if_neg (by decide), if_neg (by decide), if_pos rfl]
  unfold wordL wordE
  have hr : runE sgB (col1 ++ t) (0 + 1) = (col1 ++ t).size := all_run _ _ (Nat.le_refl _) (by omega) (fun j h1 h2 => by
    have := ej (j - 1) (by omega)
    rw [show 1 + (j - 1) = j by omega] at this
    rw [this]
    exact ha _ (by omega))
  have e1 := ej 0 h0
  rw [hr, show 0 + 1 = 1 + 0 by omega, e1, if_neg (by rw [hd]; simp), if_neg (by simp), if_neg (by omega)]
  have := cut_right col1 t
  unfold cut at this
  rw [es]
  exact congrArg (fun x => Lk.whl 4 x (1 + t.size)) this
theorem rd_bar {t : ByteArray} (h : AllB brB t) : lk (bar1 ++ t ++ bar1) 0 true = .whl 3 t (bar1 ++ t ++ bar1).size := by
  have es : (bar1 ++ t ++ bar1).size = 1 + t.size + 1 := by rw [ByteArray.size_append, ByteArray.size_append]; rfl
  have es1 : (bar1 ++ t).size = 1 + t.size := by rw [ByteArray.size_append]; rfl
  have e0 : bt (bar1 ++ t ++ bar1) 0 = 124 := by rw [bt_left (by omega)]; exact bt_left (A := bar1) (B := t) (j := 0) (by decide)
  have ej : ∀ j, j < t.size → bt (bar1 ++ t ++ bar1) (1 + j) = bt t j := fun j h => by rw [bt_left (by omega)]; exact bt_right (A := bar1) (B := t) h
  have ee : bt (bar1 ++ t ++ bar1) (1 + t.size) = 124 := by
    have := bt_right (A := bar1 ++ t) (B := bar1) (j := 0) (by decide)
    rw [es1] at this
    exact this
  have key : ∀ m j, m + j = t.size → barE (bar1 ++ t ++ bar1) 0 true (1 + j) = .whl 3 t (1 + t.size + 1) := by
    intro m
    induction m with
    | zero =>
      intro j hj
      obtain rfl : j = t.size := by omega
      rw [barE_step (by omega), if_pos ee]
      have := cut_mid bar1 t bar1
      unfold cut at this
      exact congrArg (fun x => Lk.whl 3 x (1 + t.size + 1)) this
    | succ m ih =>
      intro j hj
      have hb := h j (by omega)
      unfold brB at hb
      simp only [Bool.and_eq_true, decide_eq_true_eq] at hb
      obtain ⟨⟨h1, h2⟩, h3⟩ := hb
      rw [barE_step (by omega), ej j (by omega), if_neg h2, if_neg (by rintro (h | h); rw [h1] at h; cases h; exact h3 h)]
      exact ih (j + 1) (by omega)
  unfold lk
  rw [e0, if_neg (by decide), if_neg (by decide), if_pos rfl, es]
  exact key t.size 0 (by omega)
theorem rd_text {t : ByteArray} (h : AllB quoB t) : lk (quo1 ++ dqt t ++ quo1) 0 true = .whl 9 t (quo1 ++ dqt t ++ quo1).size := by
  have ed : (dqt t).size = (ddq t.data.toList).length := list_size _
  have es : (quo1 ++ dqt t ++ quo1).size = 1 + (dqt t).size + 1 := by rw [ByteArray.size_append, ByteArray.size_append]; rfl
  have es1 : (quo1 ++ dqt t).size = 1 + (dqt t).size := by rw [ByteArray.size_append]; rfl
  have e0 : bt (quo1 ++ dqt t ++ quo1) 0 = 34 := by rw [bt_left (by omega)]; exact bt_left (A := quo1) (B := dqt t) (j := 0) (by decide)
  have ej : ∀ j, j < (dqt t).size → bt (quo1 ++ dqt t ++ quo1) (1 + j) = bt (dqt t) j := fun j h => by rw [bt_left (by omega)]; exact bt_right (A := quo1) (B := dqt t) h
  have ee : bt (quo1 ++ dqt t ++ quo1) (1 + (dqt t).size) = 34 := by
    have := bt_right (A := quo1 ++ dqt t) (B := quo1) (j := 0) (by decide)
    rw [es1] at this
    exact this
  have etx : txt (quo1 ++ dqt t ++ quo1) 1 (1 + (dqt t).size) = t := by
    have := cut_mid quo1 (dqt t) quo1
    unfold cut at this
    unfold txt
    rw [show (1 : Nat) = quo1.size from rfl, this]
    show ByteArray.mk (dq (ddq t.data.toList).toArray.toList).toArray = t
    rw [show (ddq t.data.toList).toArray.toList = ddq t.data.toList by simp, dq_ddq, self_list]
  have key : ∀ (l : List UInt8), (∀ x ∈ l, x ∈ t.data.toList) → ∀ j, j ≤ (dqt t).size → (ddq t.data.toList).drop j = ddq l → textE (quo1 ++ dqt t ++ quo1) 0 true (1 + j) = .whl 9 t (1 + (dqt t).size + 1) := by
    intro l
    induction l with
    | nil =>
      intro _ j hj hd
      have hl := congrArg List.length hd
      simp only [ddq, List.length_drop, List.length_nil] at hl
      obtain rfl : j = (dqt t).size := by omega
      rw [textE_quote (by omega) ee, if_neg (by rintro ⟨h1, _⟩; omega), if_neg (by simp), etx]
    | cons x l ih =>
      intro hm j hj hd
      have hx : quoB (x.toNat : Int) = true := by
        obtain ⟨i, hi, e⟩ := mem_bt (hm x (List.mem_cons_self ..))
        rw [← e]; exact h i hi
      by_cases hq : x = 34
      · subst hq
        have hd' : (ddq t.data.toList).drop j = 34 :: 34 :: ddq l := by rw [hd]; rfl
        have hl := congrArg List.length hd'
        simp only [List.length_drop, List.length_cons] at hl
        have b0 : bt (dqt t) j = 34 := by
          unfold dqt
          rw [bt_list (by omega)]
          have : (ddq t.data.toList)[j]? = some 34 := by
            have := congrArg (fun m => m[0]?) hd'
            simpa using this
          rw [List.getElem?_eq_getElem (by omega)] at this
          rw [Option.some.inj this]; rfl
        have b1 : bt (dqt t) (j + 1) = 34 := by
          unfold dqt
          rw [bt_list (by omega)]
          have : (ddq t.data.toList)[j + 1]? = some 34 := by
            have := congrArg (fun m => m[1]?) hd'
            simpa using this
          rw [List.getElem?_eq_getElem (by omega)] at this
          rw [Option.some.inj this]; rfl
        have e1 := ej j (by omega)
        have e2 := ej (j + 1) (by omega)
        rw [textE_quote (by omega) (by rw [e1, b0]), if_pos ⟨by omega, by rw [Nat.add_assoc, e2, b1]⟩, Nat.add_assoc]
        exact ih (fun y hy => hm y (List.mem_cons_of_mem _ hy)) (j + 2) (by omega) (by rw [← List.drop_drop, hd']; rfl)
      · have hd' : (ddq t.data.toList).drop j = x :: ddq l := by rw [hd]; unfold ddq; rw [if_neg hq]; cases l <;> rfl
        have hl := congrArg List.length hd'
        simp only [List.length_drop, List.length_cons] at hl
        have b0 : bt (dqt t) j = (x.toNat : Int) := by
          unfold dqt
          rw [bt_list (by omega)]
          have : (ddq t.data.toList)[j]? = some x := by
            have := congrArg (fun m => m[0]?) hd'
            simpa using this
          rw [List.getElem?_eq_getElem (by omega)] at this
          rw [Option.some.inj this]
        have e1 := ej j (by omega)
        have hne : (x.toNat : Int) ≠ 34 := by
          intro h
          apply hq
          apply UInt8.toNat_inj.1
          show x.toNat = 34
          omega
        rw [textE_step (by omega) (by rw [e1, b0]; exact hne), e1, b0, if_neg (by rw [hx]; decide), Nat.add_assoc]
        exact ih (fun y hy => hm y (List.mem_cons_of_mem _ hy)) (j + 1) (by omega) (by rw [← List.drop_drop, hd']; rfl)
  unfold lk
  rw [e0, if_neg (by decide), if_neg (by decide), if_neg (by decide), if_pos rfl, es]
  exact key t.data.toList (fun _ h => h) 0 (Nat.zero_le _) rfl

/-! ### A text that is one token -/
theorem one_tel {S : ByteArray} {k : Int} {t : ByteArray} (h0 : 0 < S.size) (h : lk S 0 true = .whl k t S.size) : telR S true [] false 0 = ([tok S k t 0 S.size], .ok S.size false) := by
  obtain ⟨h1, h2⟩ := lk_front h
  unfold telR
  rw [gapS_stop h0 h1 h2, telP_whl h0 h h0, gapS_end (by omega), telP_end (by omega)]
  rfl

/-! ### What was read can be printed -/
def x2 : ByteArray := ByteArray.mk #[35, 120]
def b2 : ByteArray := ByteArray.mk #[35, 98]
def wrt (k : Int) (t : ByteArray) : ByteArray := if k = 7 then x2 ++ t else if k = 8 then b2 ++ t else t
def Prt (k : Int) (t : ByteArray) : Prop := (k = 3 ∧ (Pl t ∨ AllB brB t)) ∨ (k = 4 ∧ Pl t) ∨ (k = 9 ∧ AllB quoB t) ∨ (k ≠ 3 ∧ k ≠ 4 ∧ k ≠ 9 ∧ lk (wrt k t) 0 true = .whl k t (wrt k t).size)

section
variable {S : ByteArray} {i : Nat}
theorem ext_bt {x y j : Nat} (h : y ≤ S.size) (hj : j < y - x) : bt (S.extract x y) j = bt S (x + j) := bt_ext S h (by omega)
theorem pl_word {kd k : Int} {x e : Nat} {t : ByteArray} (hx : x ≤ S.size) (h : wordL S i true kd x = .whl k t e) : k = kd ∧ Pl t := by
  unfold wordL wordE at h
  have h1 := runE_le sgB S x
  have h2 := runE_size sgB S hx
  have h3 := run_all sgB S _ x (Nat.le_refl _)
  generalize runE sgB S x = n at *
  by_cases c : x < n ∧ digB (bt S x) = true
  · rw [if_pos c] at h; cases h
  · rw [if_neg c, if_neg (by simp)] at h
    by_cases c2 : n = x
    · rw [if_pos c2] at h; cases h
    · rw [if_neg c2] at h
      cases h
      refine ⟨rfl, ?_, ?_, ?_⟩
      · rw [ext_size S h2]; omega
      · rw [ext_bt h2 (by omega), Nat.add_zero]
        cases hd : digB (bt S x) with
        | false => rfl
        | true => exact absurd ⟨by omega, hd⟩ c
      · intro j hj
        rw [ext_size S h2] at hj
        rw [ext_bt h2 hj]
        exact h3 _ (by omega) (by omega)
theorem br_bar {k : Int} {e : Nat} {t : ByteArray} : ∀ m j, S.size - j ≤ m → i + 1 ≤ j → (∀ q, i + 1 ≤ q → q < j → brB (bt S q) = true) → barE S i true j = .whl k t e → k = 3 ∧ AllB brB t := by
  intro m
  induction m with
  | zero =>
    intro j hm _ _ h
    rw [barE_end (by omega)] at h
    cases h
  | succ m ih =>
    intro j hm hij ha h
    by_cases hj : j < S.size
    · rw [barE_step hj] at h
      by_cases c1 : bt S j = 124
      · rw [if_pos c1] at h
        cases h
        refine ⟨rfl, fun q hq => ?_⟩
        rw [ext_size S (Nat.le_of_lt hj)] at hq
        rw [ext_bt (Nat.le_of_lt hj) hq]
        exact ha _ (by omega) (by omega)
      · rw [if_neg c1] at h
        by_cases c2 : quoB (bt S j) = false ∨ bt S j = 92
        · rw [if_pos c2] at h; cases h
        · rw [if_neg c2] at h
          refine ih (j + 1) (by omega) (by omega) (fun q h1 h2 => ?_) h
          by_cases hq : q = j
          · subst hq
            have hb : quoB (bt S q) = true := by
              cases hb : quoB (bt S q) with
              | true => rfl
              | false => exact absurd (.inl hb) c2
            unfold brB
            rw [hb, dec_t c1, dec_t (show bt S q ≠ 92 from fun h => c2 (.inr h))]
            rfl
          · exact ha q h1 (by omega)
    · rw [barE_end hj] at h
      cases h
theorem quo_text {k : Int} {e : Nat} {t : ByteArray} : ∀ m j, S.size - j ≤ m → i + 1 ≤ j → (∀ q, i + 1 ≤ q → q < j → quoB (bt S q) = true) → textE S i true j = .whl k t e → k = 9 ∧ AllB quoB t := by
  intro m
  induction m with
  | zero =>
    intro j hm _ _ h
    rw [textE_end (by omega)] at h
    cases h
  | succ m ih =>
    intro j hm hij ha h
    by_cases hj : j < S.size
    · by_cases hq : bt S j = 34
      · rw [textE_quote hj hq] at h
        by_cases c1 : j + 1 < S.size ∧ bt S (j + 1) = 34
        · rw [if_pos c1] at h
          refine ih (j + 2) (by omega) (by omega) (fun q h1 h2 => ?_) h
          by_cases hq1 : q = j
          · rw [hq1, hq]; rfl
          · by_cases hq2 : q = j + 1
            · rw [hq2, c1.2]; rfl
            · exact ha q h1 (by omega)
        · rw [if_neg c1, if_neg (by simp)] at h
          cases h
          refine ⟨rfl, fun q hq => ?_⟩
          obtain ⟨x, hx, e⟩ := bt_mem hq
          rw [e]
          have hx' : x ∈ dq (S.extract (i + 1) j).data.toList := by
            have h1 : (txt S (i + 1) j).data.toList = dq (S.extract (i + 1) j).data.toList := by
              show (dq (S.extract (i + 1) j).data.toList).toArray.toList = _
              simp
            rwa [h1] at hx
          obtain ⟨p, hp, e2⟩ := mem_bt (dq_mem _ (Nat.le_refl _) hx')
          rw [← e2]
          rw [ext_size S (Nat.le_of_lt hj)] at hp
          rw [ext_bt (Nat.le_of_lt hj) hp]
          exact ha _ (by omega) (by omega)
      · rw [textE_step hj hq] at h
        by_cases c1 : quoB (bt S j) = false
        · rw [if_pos c1] at h; cases h
        · rw [if_neg c1] at h
          refine ih (j + 1) (by omega) (by omega) (fun q h1 h2 => ?_) h
          by_cases hq1 : q = j
          · subst hq1
            cases hb : quoB (bt S q) with
            | true => rfl
            | false => exact absurd hb c1
          · exact ha q h1 (by omega)
    · rw [textE_end hj] at h
      cases h

theorem ends_whl {kd k : Int} {x e e' : Nat} {t : ByteArray} (h : endsL S i true kd x e = .whl k t e') : k = kd ∧ t = S.extract x e ∧ e' = e := by
  unfold endsL at h
  rw [if_neg (by simp)] at h
  by_cases c : e < S.size ∧ sgB (bt S e) = true
  · rw [if_pos c] at h; cases h
  · rw [if_neg c] at h
    cases h
    exact ⟨rfl, rfl, rfl⟩
theorem ends_all {S : ByteArray} {i : Nat} {kd : Int} {x : Nat} : endsL S i true kd x S.size = .whl kd (S.extract x S.size) S.size := by
  unfold endsL
  rw [if_neg (by simp), if_neg (by rintro ⟨h, _⟩; omega)]
theorem cut_num (hi : i < S.size) (hd : digB (bt S i) = true) {k : Int} {t : ByteArray} {e : Nat} (h : numL S i true = .whl k t e) : (k = 5 ∨ k = 6) ∧ t = S.extract i e ∧ lk t 0 true = .whl k t t.size := by
  have h1 := runE_le digB S i
  have h2 := runE_size digB S (Nat.le_of_lt hi)
  have h0 : i < runE digB S i := by
    rw [runE_yes hi hd]
    have := runE_le digB S (i + 1)
    omega
  have hlk : ∀ n, 0 < n → i + n ≤ S.size → lk (cut S i n) 0 true = numL (cut S i n) 0 true := by
    intro n h3 h4
    have hb := cut_bt h4 h3
    rw [Nat.add_zero] at hb
    have hx := bt_in S i
    have hne : bt S i ≠ 40 ∧ bt S i ≠ 41 ∧ bt S i ≠ 124 ∧ bt S i ≠ 34 ∧ bt S i ≠ 35 ∧ bt S i ≠ 58 := by
      unfold digB at hd
      simp only [Bool.and_eq_true, decide_eq_true_eq] at hd
      omega
    unfold lk
    rw [hb, if_neg hne.1, if_neg hne.2.1, if_neg hne.2.2.1, if_neg hne.2.2.2.1, if_neg hne.2.2.2.2.1, if_neg hne.2.2.2.2.2, if_pos hd]
  unfold numL at h
  generalize hn : runE digB S i = n at *
  by_cases c : i + 1 < n ∧ bt S i = 48
  · rw [if_pos c] at h; cases h
  · rw [if_neg c] at h
    unfold numE at h
    by_cases c2 : n < S.size ∧ bt S n = 46
    · rw [if_pos c2] at h
      have h3 := runE_le digB S (n + 1)
      have h4 := runE_size digB S (i := n + 1) (by omega)
      generalize hf : runE digB S (n + 1) = f at *
      by_cases c3 : f = n + 1
      · rw [if_pos c3, if_neg (by simp)] at h; cases h
      · rw [if_neg c3] at h
        obtain ⟨rfl, rfl, rfl⟩ := ends_whl h
        refine ⟨.inr rfl, rfl, ?_⟩
        have hle : i + (e - i) ≤ S.size := by omega
        have hce : S.extract i e = cut S i (e - i) := by unfold cut; rw [show i + (e - i) = e by omega]
        have hsz := cut_size hle
        rw [hce, hlk _ (by omega) hle]
        unfold numL
        have r1 := cut_run hle digB _ 0 (Nat.le_refl _) (Nat.zero_le _) (by rw [Nat.add_zero, hn]; omega)
        rw [Nat.add_zero, hn] at r1
        have r1' : runE digB (cut S i (e - i)) 0 = n - i := by omega
        have b0 := cut_bt hle (j := 0) (by omega)
        rw [Nat.add_zero] at b0
        rw [r1', b0, if_neg (fun h => c ⟨by omega, h.2⟩)]
        unfold numE
        have b1 := cut_bt hle (j := n - i) (by omega)
        rw [show i + (n - i) = n by omega] at b1
        have r2 := cut_run hle digB _ (n - i + 1) (Nat.le_refl _) (by omega) (by rw [show i + (n - i + 1) = n + 1 by omega, hf]; omega)
        rw [show i + (n - i + 1) = n + 1 by omega, hf] at r2
        have r2' : runE digB (cut S i (e - i)) (n - i + 1) = (cut S i (e - i)).size := by omega
        rw [if_pos ⟨by omega, by rw [b1]; exact c2.2⟩, r2', if_neg (by omega), ends_all, ext_self]
    · rw [if_neg c2] at h
      obtain ⟨rfl, rfl, rfl⟩ := ends_whl h
      refine ⟨.inl rfl, rfl, ?_⟩
      have hle : i + (e - i) ≤ S.size := by omega
      have hce : S.extract i e = cut S i (e - i) := by unfold cut; rw [show i + (e - i) = e by omega]
      have hsz := cut_size hle
      rw [hce, hlk _ (by omega) hle]
      unfold numL
      have r1 := cut_run hle digB _ 0 (Nat.le_refl _) (Nat.zero_le _) (by rw [Nat.add_zero, hn]; omega)
      rw [Nat.add_zero, hn] at r1
      have r1' : runE digB (cut S i (e - i)) 0 = (cut S i (e - i)).size := by omega
      have b0 := cut_bt hle (j := 0) (by omega)
      rw [Nat.add_zero] at b0
      rw [r1', b0, if_neg (fun h => c ⟨by omega, h.2⟩)]
      unfold numE
      rw [if_neg (by rintro ⟨h, _⟩; omega), ends_all, ext_self]
theorem cut_sharp (hi : i + 1 < S.size) (h0 : bt S i = 35) {kd k : Int} {p : Int → Bool} {t : ByteArray} {e : Nat} (hk : kd = 7 ∧ bt S (i + 1) = 120 ∧ p = hexB ∨ kd = 8 ∧ bt S (i + 1) = 98 ∧ p = twoB) (h : sharpE S i true kd (runE p S (i + 2)) = .whl k t e) : k = kd ∧ lk (wrt k t) 0 true = .whl k t (wrt k t).size := by
  have h1 := runE_le p S (i + 2)
  have h2 := runE_size p S (i := i + 2) (by omega)
  unfold sharpE at h
  generalize hn : runE p S (i + 2) = n at *
  by_cases c : n = i + 2
  · rw [if_pos c, if_neg (by simp)] at h; cases h
  · rw [if_neg c] at h
    obtain ⟨rfl, rfl, rfl⟩ := ends_whl h
    refine ⟨rfl, ?_⟩
    have hle : i + (e - i) ≤ S.size := by omega
    have hsz := cut_size hle
    have b0 := cut_bt hle (j := 0) (by omega)
    rw [Nat.add_zero, h0] at b0
    have b1 := cut_bt hle (j := 1) (by omega)
    have hw : wrt k (S.extract (i + 2) e) = cut S i (e - i) := by
      have hsp : cut S i (e - i) = S.extract i (i + 2) ++ S.extract (i + 2) e := by
        unfold cut
        rw [show i + (e - i) = e by omega, ByteArray.extract_append_extract, Nat.min_eq_left (by omega), Nat.max_eq_right (by omega)]
      have hfr : ∀ y : UInt8, bt S (i + 1) = (y.toNat : Int) → S.extract i (i + 2) = ByteArray.mk #[35, y] := by
        intro y hy
        apply ByteArray.ext_getElem
        · rw [ext_size S (by omega)]; show i + 2 - i = 2; omega
        · intro j hj1 hj2
          have hj2' : j < 2 := hj2
          have e1 := ext_bt (S := S) (x := i) (y := i + 2) (j := j) (by omega) (by omega)
          unfold bt at e1
          rw [get!_eq _ hj1] at e1
          apply UInt8.toNat_inj.1
          rcases (show j = 0 ∨ j = 1 by omega) with rfl | rfl
          · have h0' : ((S.get! (i + 0)).toNat : Int) = 35 := h0
            rw [h0'] at e1
            show _ = (35 : UInt8).toNat
            have : (35 : UInt8).toNat = 35 := rfl
            omega
          · have h0' : ((S.get! (i + 1)).toNat : Int) = (y.toNat : Int) := hy
            rw [h0'] at e1
            show _ = y.toNat
            omega
      rw [hsp]
      unfold wrt
      rcases hk with ⟨rfl, hb, _⟩ | ⟨rfl, hb, _⟩
      · rw [if_pos rfl, hfr 120 hb]; rfl
      · rw [if_neg (by decide), if_pos rfl, hfr 98 hb]; rfl
    rw [hw]
    unfold lk
    rw [b0, if_neg (by decide), if_neg (by decide), if_neg (by decide), if_neg (by decide), if_pos rfl]
    unfold sharpL
    have r1 := cut_run hle p _ 2 (Nat.le_refl _) (by omega) (by rw [hn]; omega)
    rw [hn] at r1
    have r1' : runE p (cut S i (e - i)) 2 = (cut S i (e - i)).size := by rw [hsz]; omega
    have hext : (cut S i (e - i)).extract (0 + 2) (cut S i (e - i)).size = S.extract (i + 2) e := by
      rw [hsz, cut_ext (Nat.le_refl _), show i + (e - i) = e by omega, Nat.zero_add]
    have hsh : ∀ kd, sharpE (cut S i (e - i)) 0 true kd (cut S i (e - i)).size = .whl kd (S.extract (i + 2) e) (cut S i (e - i)).size := by
      intro kd
      unfold sharpE
      rw [if_neg (by omega), ends_all, hext]
    rw [if_neg (by omega), Nat.zero_add, b1]
    rcases hk with ⟨rfl, hb, rfl⟩ | ⟨rfl, hb, rfl⟩
    · rw [hb, if_pos rfl]
      show sharpE _ 0 true 7 (runE hexB _ 2) = _
      rw [r1']; exact hsh 7
    · rw [hb, if_neg (by decide), if_pos rfl]
      show sharpE _ 0 true 8 (runE twoB _ 2) = _
      rw [r1']; exact hsh 8
/-- A token that was read can be printed. -/
theorem prt_lk (hi : i < S.size) {k : Int} {t : ByteArray} {e : Nat} (h : lk S i true = .whl k t e) : Prt k t := by
  unfold lk at h
  by_cases c1 : bt S i = 40
  · rw [if_pos c1] at h
    cases h
    exact .inr (.inr (.inr ⟨by decide, by decide, by decide, rfl⟩))
  rw [if_neg c1] at h
  by_cases c2 : bt S i = 41
  · rw [if_pos c2] at h
    cases h
    exact .inr (.inr (.inr ⟨by decide, by decide, by decide, rfl⟩))
  rw [if_neg c2] at h
  by_cases c3 : bt S i = 124
  · rw [if_pos c3] at h
    obtain ⟨h1, h2⟩ := br_bar _ _ (Nat.le_refl _) (Nat.le_refl _) (fun q h1 h2 => by omega) h
    exact .inl ⟨h1, .inr h2⟩
  rw [if_neg c3] at h
  by_cases c4 : bt S i = 34
  · rw [if_pos c4] at h
    obtain ⟨h1, h2⟩ := quo_text _ _ (Nat.le_refl _) (Nat.le_refl _) (fun q h1 h2 => by omega) h
    exact .inr (.inr (.inl ⟨h1, h2⟩))
  rw [if_neg c4] at h
  by_cases c5 : bt S i = 35
  · rw [if_pos c5] at h
    unfold sharpL at h
    by_cases d1 : i + 1 = S.size
    · rw [if_pos d1, if_pos rfl] at h; cases h
    · rw [if_neg d1] at h
      by_cases d2 : bt S (i + 1) = 120
      · rw [if_pos d2] at h
        obtain ⟨h1, h2⟩ := cut_sharp (by omega) c5 (.inl ⟨rfl, d2, rfl⟩) h
        exact .inr (.inr (.inr ⟨by omega, by omega, by omega, h2⟩))
      · rw [if_neg d2] at h
        by_cases d3 : bt S (i + 1) = 98
        · rw [if_pos d3] at h
          obtain ⟨h1, h2⟩ := cut_sharp (by omega) c5 (.inr ⟨rfl, d3, rfl⟩) h
          exact .inr (.inr (.inr ⟨by omega, by omega, by omega, h2⟩))
        · rw [if_neg d3] at h; cases h
  rw [if_neg c5] at h
  by_cases c6 : bt S i = 58
  · rw [if_pos c6] at h
    obtain ⟨h1, h2⟩ := pl_word (by omega) h
    exact .inr (.inl ⟨h1, h2⟩)
  rw [if_neg c6] at h
  by_cases c7 : digB (bt S i) = true
  · rw [if_pos c7] at h
    obtain ⟨h1, h2, h3⟩ := cut_num hi c7 h
    have hw : wrt k t = t := by unfold wrt; rw [if_neg (by omega), if_neg (by omega)]
    exact .inr (.inr (.inr ⟨by omega, by omega, by omega, by rw [hw]; exact h3⟩))
  rw [if_neg c7] at h
  by_cases c8 : sgB (bt S i) = true
  · rw [if_pos c8] at h
    obtain ⟨h1, h2⟩ := pl_word (Nat.le_of_lt hi) h
    exact .inl ⟨h1, .inl h2⟩
  · rw [if_neg c8] at h; cases h
end

end Go.FK


/- Tokens: Print, the program's and the reference's; TokensPrints, TokensBack, TokensSpread. -/
namespace Go.FK

/-! ### Whether all bytes are of a kind -/
theorem all_iff {p : Int → Bool} {t : ByteArray} : AllB p t ↔ runE p t 0 = t.size := by
  refine ⟨fun h => all_run _ 0 (Nat.le_refl _) (Nat.zero_le _) (fun j _ hj => h j hj), fun h j hj => run_all p t _ 0 (Nat.le_refl _) j (Nat.zero_le _) (by omega)⟩
theorem run_high {p : Int → Bool} {t : ByteArray} : ∀ w i, i + w ≤ t.size → (∀ j, i ≤ j → j < i + w → p (bt t j) = true) → runE p t i = runE p t (i + w) := by
  intro w
  induction w with
  | zero => intro i _ _; rfl
  | succ w ih =>
    intro i hi h
    rw [runE_yes (by omega) (h i (Nat.le_refl _) (by omega)), ih (i + 1) (by omega) (fun j a b => h j (by omega) (by omega)), show i + 1 + w = i + (w + 1) by omega]
theorem br_high {r : Int} (h : 128 ≤ r) : brB r = true := by unfold brB; rw [quot_high h, dec_t (by omega), dec_t (by omega)]; rfl

/-! ### Plain -/
theorem pl_run {t : ByteArray} : Pl t ↔ (0 < t.size ∧ digB (bt t 0) = false ∧ runE sgB t 0 = t.size) := by unfold Pl; rw [all_iff]
theorem plain_loop {t : ByteArray} (ht : t.size ≤ 4294967280) : ∀ m i, m + i = t.size → Ev (fun k => tokens_Plain.p0 k t (t.size : Int) (i : Int)) (decide (runE sgB t i = t.size)) := by
  intro m
  induction m with
  | zero =>
    intro i hi
    refine Ev.turn (fun k => tokens_Plain.p0_succ k _ _ _) ?_
    unfold tokens_Plain.e0
    rw [runE_end sgB t (by omega), dec_t (show i = t.size by omega)]
    exact Ev.fls (dec_f (by omega)) Ev.pure
  | succ m ih =>
    intro i hi
    refine Ev.turn (fun k => tokens_Plain.p0_succ k _ _ _) ?_
    unfold tokens_Plain.e0
    rw [btI_bt t (by omega), w1 (by omega)]
    refine Ev.tru (dec_t (by omega)) (Ev.tru (by simp; omega) (Ev.bind (sign_ev (bt_in t i)) ?_))
    cases c : sgB (bt t i) with
    | true =>
      rw [runE_yes (by omega) c]
      exact Ev.fls rfl (ih (i + 1) (by omega))
    | false =>
      rw [runE_no (by omega) c, dec_f (by omega)]
      exact Ev.tru rfl Ev.pure
theorem plain_ev {t : ByteArray} (ht : t.size ≤ 4294967280) : Ev (fun k => tokens_Plain.f k t) (decide (Pl t)) := by
  have h5 : Ev (fun k => tokens_Plain.p5 k ()) false := Ev.turn (fun k => tokens_Plain.p5_succ k _) Ev.pure
  unfold tokens_Plain.f tokens_Plain.e
  by_cases h0 : t.size = 0
  · rw [dec_f (show ¬ Pl t from fun h => by have := h.1; omega)]
    exact Ev.tru (by rw [empty_beq]; exact dec_t h0) h5
  · have e0 := btI_bt t (i := 0) (by omega)
    refine Ev.fls (by rw [empty_beq]; exact dec_f h0) (Ev.tru (dec_t (by omega)) ?_)
    rw [show btI t (0 : Int) = bt t 0 from e0]
    refine Ev.bind (digit_ev (bt_in t 0)) ?_
    cases hd : digB (bt t 0) with
    | true =>
      rw [dec_f (show ¬ Pl t from fun h => by have := h.2.1; rw [hd] at this; cases this)]
      exact Ev.tru rfl h5
    | false =>
      have := plain_loop ht t.size 0 (by omega)
      rw [show decide (Pl t) = decide (runE sgB t 0 = t.size) from decide_eq_decide.2 ⟨fun h => (pl_run.1 h).2.2, fun h => pl_run.2 ⟨by omega, hd, h⟩⟩]
      exact Ev.fls rfl this
/-! ### Symbol -/
def nul : ByteArray := ByteArray.mk #[]
def symS (t : ByteArray) : ByteArray × Int := if Pl t then (t, 0) else if AllB brB t then (bar1 ++ t ++ bar1, 0) else (nul, 122)
theorem sz_ok {a b : Nat} (h : a + b ≤ 9223372036854775807) : decide (((a + b : Nat) : Int) > IntKind.i64.max) = false := dec_f (by
  show ¬ ((a + b : Nat) : Int) > 9223372036854775807
  omega)
theorem sym_loop {t : ByteArray} (ht : t.size ≤ 4294967280) : ∀ m i, t.size - i ≤ m → i ≤ t.size → Ev (fun k => tokens_Symbol.p0 k (t, i) t) (if runE brB t i = t.size then (bar1 ++ t ++ bar1, (0 : Int)) else (nul, 122)) := by
  have h15 : Ev (fun k => tokens_Symbol.p15 k ()) (nul, (122 : Int)) := Ev.turn (fun k => tokens_Symbol.p15_succ k _) Ev.pure
  have hend : ∀ i, i = t.size → Ev (fun k => tokens_Symbol.p0 k (t, i) t) (if runE brB t i = t.size then (bar1 ++ t ++ bar1, (0 : Int)) else (nul, 122)) := by
    intro i hi
    refine Ev.turn (fun k => tokens_Symbol.p0_succ k _ _) ?_
    unfold tokens_Symbol.e0
    rw [runE_end brB t (by omega), if_pos hi]
    refine Ev.fls (blt_f (by simp only; omega)) (Ev.fls (sz_ok ?_) (Ev.fls (sz_ok ?_) Ev.pure))
    · show 1 + t.size ≤ _; omega
    · rw [ByteArray.size_append]; show 1 + t.size + 1 ≤ _; omega
  intro m
  induction m with
  | zero => intro i hm hi; exact hend i (by omega)
  | succ m ih =>
    intro i hm hi
    by_cases hlt : i < t.size
    · refine Ev.turn (fun k => tokens_Symbol.p0_succ k _ _) ?_
      unfold tokens_Symbol.e0
      refine Ev.tru (blt_t hlt) ?_
      dsimp only
      rcases rune_at t hlt with ⟨hr, hw⟩ | ⟨hr, hw1, hw2, hw3⟩
      · rw [hw, hr]
        refine Ev.bind (quot_ev _) ?_
        have hstop : brB (bt t i) = false → (if runE brB t i = t.size then (bar1 ++ t ++ bar1, (0 : Int)) else (nul, 122)) = (nul, 122) := fun hb => by rw [runE_no hlt hb, if_neg (by omega)]
        cases hq : quoB (bt t i) with
        | false =>
          rw [hstop (by unfold brB; rw [hq]; rfl)]
          exact Ev.tru rfl h15
        | true =>
          refine Ev.fls rfl ?_
          by_cases c1 : bt t i = 124
          · rw [hstop (by unfold brB; rw [c1]; rfl)]
            exact Ev.tru (dec_t c1) h15
          · refine Ev.fls (dec_f c1) ?_
            by_cases c2 : bt t i = 92
            · rw [hstop (by unfold brB; rw [c2]; rfl)]
              exact Ev.tru (dec_t c2) h15
            · rw [runE_yes hlt (by unfold brB; rw [hq, dec_t (show bt t i ≠ 124 from c1), dec_t (show bt t i ≠ 92 from c2)]; rfl)]
              exact Ev.fls (dec_f c2) (ih (i + 1) (by omega) (by omega))
      · refine Ev.bind (quot_ev _) ?_
        rw [quot_high hr, run_high (Utf8.decode t i).2 i hw2 (fun j a b => br_high (hw3 j a b))]
        exact Ev.fls rfl (Ev.fls (dec_f (by omega)) (Ev.fls (dec_f (by omega)) (ih (i + (Utf8.decode t i).2) (by omega) hw2)))
    · exact hend i (by omega)
theorem symS_eq {t : ByteArray} (h : ¬ Pl t) : (if runE brB t 0 = t.size then (bar1 ++ t ++ bar1, (0 : Int)) else (nul, 122)) = symS t := by
  unfold symS
  rw [if_neg h]
  by_cases c : AllB brB t
  · rw [if_pos c, if_pos (all_iff.1 c)]
  · rw [if_neg c, if_neg (fun h => c (all_iff.2 h))]
theorem sym_ev {t : ByteArray} (ht : t.size ≤ 4294967280) : Ev (fun k => tokens_Symbol.f k t) (symS t) := by
  unfold tokens_Symbol.f tokens_Symbol.e
  refine Ev.bind (plain_ev ht) ?_
  by_cases h : Pl t
  · rw [dec_t h, show symS t = (t, 0) by unfold symS; rw [if_pos h]]
    exact Ev.tru rfl Ev.pure
  · rw [dec_f h, ← symS_eq h]
    exact Ev.fls rfl (sym_loop ht _ 0 (Nat.le_refl _) (Nat.zero_le _))
/-! ### A string -/
def strS (t : ByteArray) : ByteArray × Int := if AllB quoB t then (quo1 ++ dqt t ++ quo1, 0) else (nul, 122)
theorem strS_eq {t : ByteArray} : (if runE quoB t 0 = t.size then (quo1 ++ dqt t ++ quo1, (0 : Int)) else (nul, 122)) = strS t := by
  unfold strS
  by_cases c : AllB quoB t
  · rw [if_pos c, if_pos (all_iff.1 c)]
  · rw [if_neg c, if_neg (fun h => c (all_iff.2 h))]
theorem dqt_size (t : ByteArray) : (dqt t).size ≤ 2 * t.size := by
  have h1 : (dqt t).size = (ddq t.data.toList).length := list_size _
  have h2 := ddq_len t.data.toList
  have h3 : t.data.toList.length = t.size := Array.length_toList
  omega
theorem dbl_ev {t : ByteArray} (ht : t.size ≤ 4294967280) : Ev (fun k => strings_ReplaceAll.f k t (ByteArray.mk #[34]) (ByteArray.mk #[34, 34])) (dqt t) := by
  refine ⟨0, fun k _ => ?_⟩
  unfold strings_ReplaceAll.f dqt
  rw [dec_t (show t.size < 4294967281 by omega)]
  show some _ = _
  rw [show (ByteArray.mk #[34, 34]).data.toList = [34, 34] from rfl, show (ByteArray.mk #[34]).data.toList = [34] from rfl, replace_ddq]
theorem str_loop {x : TK} {t : ByteArray} (hx : x.2.1 = t) (ht : t.size ≤ 2147483000) : ∀ m i, t.size - i ≤ m → i ≤ t.size → Ev (fun k => tokens_Print.p2 k x (t, i)) (if runE quoB t i = t.size then (quo1 ++ dqt t ++ quo1, (0 : Int)) else (nul, 122)) := by
  have hend : ∀ i, i = t.size → Ev (fun k => tokens_Print.p2 k x (t, i)) (if runE quoB t i = t.size then (quo1 ++ dqt t ++ quo1, (0 : Int)) else (nul, 122)) := by
    intro i hi
    have hd := dqt_size t
    refine Ev.turn (fun k => tokens_Print.p2_succ k _ _) ?_
    unfold tokens_Print.e2
    rw [runE_end quoB t (by omega), if_pos hi, hx]
    refine Ev.fls (blt_f (by simp only; omega)) (Ev.bind (dbl_ev (by omega)) (Ev.fls (sz_ok ?_) (Ev.fls (sz_ok ?_) Ev.pure)))
    · show 1 + (dqt t).size ≤ _; omega
    · rw [ByteArray.size_append]; show 1 + (dqt t).size + 1 ≤ _; omega
  intro m
  induction m with
  | zero => intro i hm hi; exact hend i (by omega)
  | succ m ih =>
    intro i hm hi
    by_cases hlt : i < t.size
    · refine Ev.turn (fun k => tokens_Print.p2_succ k _ _) ?_
      unfold tokens_Print.e2
      refine Ev.tru (blt_t hlt) ?_
      dsimp only
      rcases rune_at t hlt with ⟨hr, hw⟩ | ⟨hr, hw1, hw2, hw3⟩
      · rw [hw, hr]
        refine Ev.bind (quot_ev _) ?_
        cases hq : quoB (bt t i) with
        | false =>
          rw [runE_no hlt hq, if_neg (by omega)]
          exact Ev.tru rfl Ev.pure
        | true =>
          rw [runE_yes hlt hq]
          exact Ev.fls rfl (ih (i + 1) (by omega) (by omega))
      · refine Ev.bind (quot_ev _) ?_
        rw [quot_high hr, run_high (Utf8.decode t i).2 i hw2 (fun j a b => quot_high (hw3 j a b))]
        exact Ev.fls rfl (ih (i + (Utf8.decode t i).2) (by omega) hw2)
    · exact hend i (by omega)
/-! ### Print -/
abbrev zP : TK := ((0 : Int), ByteArray.mk #[], (0 : Int), (0 : Int), (0 : Int), (0 : Int))
/-- One token of that kind and text alone. -/
def chk (r : List TK × Fi) (k : Int) (t : ByteArray) : Bool := decide (finE r.2 = 0) && (decide (r.1.length = 1) && (decide ((nthD zP r.1 0).1 = k) && ((nthD zP r.1 0).2.1.toList == t.toList)))
def keyS (t : ByteArray) : ByteArray × Int := if Pl t then (col1 ++ t, 0) else (nul, 122)
def chkS (s : ByteArray) (k : Int) (t : ByteArray) : ByteArray × Int := bif chk (telR s true [] false 0) k t then (s, 0) else (nul, 120)
def printS (k : Int) (t : ByteArray) : ByteArray × Int := if k = 3 then symS t else if k = 4 then keyS t else if k = 9 then strS t else chkS (wrt k t) k t

theorem key_ev {P : Nat → ByteArray → Option Bool} (hP : ∀ {t : ByteArray}, t.size ≤ 4294967280 → Ev (fun k => P k t) (decide (Pl t))) {t : ByteArray} (ht : t.size ≤ 2147483000) :
    Ev (fun k => Option.bind (P k t) fun r2 => bif (!r2) then some ((ByteArray.mk #[]), (122 : Int)) else bif (decide ((((ByteArray.mk #[58]).size + t.size : Nat) : Int) > IntKind.i64.max)) then none else some (((ByteArray.mk #[58]) ++ t), (0 : Int))) (keyS t) := by
  refine Ev.bind (hP (by omega)) ?_
  unfold keyS
  by_cases h : Pl t
  · rw [dec_t h, if_pos h]
    refine Ev.fls rfl (Ev.fls (sz_ok ?_) Ev.pure)
    show 1 + t.size ≤ _; omega
  · rw [dec_f h, if_neg h]
    exact Ev.tru rfl Ev.pure
/-- The look at what was read, as both write it. -/
theorem chk_ev {q : Nat → Unit → Option (ByteArray × Int)} (hq : Ev (fun k => q k ()) (nul, (120 : Int))) (s : ByteArray) (r : List TK × Fi) (k : Int) (t : ByteArray) :
    Ev (fun n => bif (!decide (finE r.2 = (0 : Int))) then q n () else bif (!decide ((r.1.length : Int) = (1 : Int))) then q n () else bif (decide ((0 : Int) < (r.1.length : Int))) then (bif (!decide ((nthD zP r.1 0).1 = k)) then q n () else bif (decide ((0 : Int) < (r.1.length : Int))) then (bif (!((nthD zP r.1 0).2.1.toList == t.toList)) then q n () else some (s, (0 : Int))) else none) else none)
      (bif chk r k t then (s, 0) else (nul, 120)) := by
  unfold chk
  by_cases c1 : finE r.2 = 0
  · rw [dec_t c1]
    refine Ev.fls rfl ?_
    by_cases c2 : r.1.length = 1
    · rw [dec_t c2]
      refine Ev.fls (by rw [dec_t (by omega)]; rfl) (Ev.tru (dec_t (by omega)) ?_)
      by_cases c3 : (nthD zP r.1 0).1 = k
      · rw [dec_t c3]
        refine Ev.fls rfl (Ev.tru (dec_t (by omega)) ?_)
        cases c4 : ((nthD zP r.1 0).2.1.toList == t.toList) with
        | true => exact Ev.fls rfl Ev.pure
        | false => exact Ev.tru rfl hq
      · rw [dec_f c3]
        exact Ev.tru rfl hq
    · rw [dec_f c2]
      exact Ev.tru (by rw [dec_f (by omega)]; rfl) hq
  · rw [dec_f c1]
    exact Ev.tru rfl hq
theorem wrt_size (k : Int) (t : ByteArray) : (wrt k t).size ≤ t.size + 2 := by
  unfold wrt
  split
  · rw [ByteArray.size_append]; show 2 + t.size ≤ _; omega
  · split
    · rw [ByteArray.size_append]; show 2 + t.size ≤ _; omega
    · omega
theorem written_ev (x : TK) (ht : x.2.1.size ≤ 2147483000) : Ev (fun k => tokens_written.f k x) (wrt x.1 x.2.1) := by
  unfold tokens_written.f tokens_written.e wrt
  by_cases h7 : x.1 = 7
  · rw [if_pos h7]
    refine Ev.tru (dec_t h7) (Ev.fls (sz_ok ?_) Ev.pure)
    show 2 + x.2.1.size ≤ _; omega
  · rw [if_neg h7]
    refine Ev.fls (dec_f h7) ?_
    by_cases h8 : x.1 = 8
    · rw [if_pos h8]
      refine Ev.tru (dec_t h8) (Ev.fls (sz_ok ?_) Ev.pure)
      show 2 + x.2.1.size ≤ _; omega
    · rw [if_neg h8]
      exact Ev.fls (dec_f h8) Ev.pure
theorem print_ev (x : TK) (ht : x.2.1.size ≤ 2147483000) : Ev (fun k => tokens_Print.f k x) (printS x.1 x.2.1) := by
  unfold tokens_Print.f tokens_Print.e printS
  by_cases h3 : x.1 = 3
  · rw [if_pos h3]
    exact Ev.tru (dec_t h3) (Ev.bind (sym_ev (by omega)) Ev.pure)
  rw [if_neg h3]
  refine Ev.fls (dec_f h3) ?_
  by_cases h4 : x.1 = 4
  · rw [if_pos h4]
    exact Ev.tru (dec_t h4) (key_ev (P := tokens_Plain.f) plain_ev ht)
  rw [if_neg h4]
  refine Ev.fls (dec_f h4) ?_
  by_cases h9 : x.1 = 9
  · rw [if_pos h9, ← strS_eq]
    exact Ev.tru (dec_t h9) (str_loop rfl ht _ 0 (Nat.le_refl _) (Nat.zero_le _))
  rw [if_neg h9]
  have hsz := wrt_size x.1 x.2.1
  refine Ev.fls (dec_f h9) (Ev.bind (written_ev x ht) (Ev.bind (all_ev (by omega)) ?_))
  obtain ⟨a1, a2⟩ := all_enc (telR (wrt x.1 x.2.1) true [] false 0) (wrt x.1 x.2.1)
  rw [a1, a2]
  exact chk_ev (q := tokens_Print.p37) (Ev.turn (fun k => tokens_Print.p37_succ k _) Ev.pure) (wrt x.1 x.2.1) (telR (wrt x.1 x.2.1) true [] false 0) x.1 x.2.1

/-! ### What was told alone -/
theorem chk_one {k : Int} {t : ByteArray} (hk : k ≠ 3 ∧ k ≠ 4 ∧ k ≠ 9) (h : chk (telR (wrt k t) true [] false 0) k t = true) : 1 ≤ k ∧ k ≤ 9 ∧ lk (wrt k t) 0 true = .whl k t (wrt k t).size ∧ 0 < (wrt k t).size := by
  unfold chk at h
  simp only [Bool.and_eq_true, decide_eq_true_eq] at h
  obtain ⟨h1, h2, h3, h4⟩ := h
  have hs : (wrt k t).size = if k = 7 ∨ k = 8 then t.size + 2 else t.size := by
    unfold wrt
    by_cases c7 : k = 7
    · rw [if_pos c7, if_pos (.inl c7), ByteArray.size_append]; show 2 + t.size = _; omega
    · rw [if_neg c7]
      by_cases c8 : k = 8
      · rw [if_pos c8, if_pos (.inr c8), ByteArray.size_append]; show 2 + t.size = _; omega
      · rw [if_neg c8, if_neg (by omega)]
  generalize wrt k t = s at *
  unfold telR at h1 h2 h3 h4
  have hge := gapS_ge s false 0
  generalize (gapS s false 0).1 = j at *
  generalize (gapS s false 0).2 = c at *
  by_cases hj : j < s.size
  · have hok := ok_lk (S := s) (i := j) (fin := true) hj
    have hlen := len_lk (S := s) (i := j) (fin := true) hj
    cases hl : lk s j true with
    | opn => rw [hl] at hok; cases hok
    | bad cd a =>
      rw [hl] at hok
      rw [telP_bad hj hl] at h1
      have := hok.2.2
      simp only [finE] at h1
      omega
    | whl k' t' e =>
      rw [hl] at hok hlen
      have happ := telP_app (S := s) (fin := true) (l := []) (j := (gapS s false e).1) (c := (gapS s false e).2) [tok s k' t' j e]
      rw [telP_whl hj hl hok.1, List.nil_append, ← List.append_nil [tok s k' t' j e], happ] at h3 h4
      have e1 : k' = k := h3
      have e2 : t' = t := by
        have h4' : (t'.toList == t.toList) = true := h4
        have h5 := eq_of_beq h4'
        rw [ByteArray.toList_eq, ByteArray.toList_eq] at h5
        exact bytes_inj' h5
      subst e1 e2
      obtain ⟨l1, l2, l3, l4, l5⟩ := hlen
      have o1 := hok.1
      have o2 := hok.2.1
      have hsz : s.size = e - j := by
        by_cases c78 : k' = 7 ∨ k' = 8
        · rw [if_pos c78] at hs
          rw [hs]; exact l5 c78
        · rw [if_neg c78] at hs
          rw [hs]; exact l4 (by omega)
      obtain rfl : j = 0 := by omega
      obtain rfl : e = s.size := by omega
      exact ⟨l1, l2, hl, by omega⟩
  · rw [telP_end hj] at h2
    cases h2
theorem chk_yes {s : ByteArray} {k : Int} {t : ByteArray} (h0 : 0 < s.size) (h : lk s 0 true = .whl k t s.size) : chk (telR s true [] false 0) k t = true := by
  rw [one_tel h0 h]
  unfold chk
  show (decide ((0 : Int) = 0) && (decide (1 = 1) && (decide (k = k) && (t.toList == t.toList)))) = true
  rw [toList_beq, dec_t (show k = k from rfl)]
  rfl
theorem sym_rd {t s : ByteArray} (h : symS t = (s, 0)) : lk s 0 true = .whl 3 t s.size ∧ 0 < s.size := by
  unfold symS at h
  by_cases c : Pl t
  · rw [if_pos c] at h
    cases h
    exact ⟨rd_plain c, c.1⟩
  · rw [if_neg c] at h
    by_cases c2 : AllB brB t
    · rw [if_pos c2] at h
      cases h
      exact ⟨rd_bar c2, by rw [ByteArray.size_append, ByteArray.size_append]; show 0 < 1 + t.size + 1; omega⟩
    · rw [if_neg c2] at h; cases h
theorem key_rd {t s : ByteArray} (h : keyS t = (s, 0)) : lk s 0 true = .whl 4 t s.size ∧ 0 < s.size := by
  unfold keyS at h
  by_cases c : Pl t
  · rw [if_pos c] at h
    cases h
    exact ⟨rd_key c, by rw [ByteArray.size_append]; show 0 < 1 + t.size; omega⟩
  · rw [if_neg c] at h; cases h
theorem str_rd {t s : ByteArray} (h : strS t = (s, 0)) : lk s 0 true = .whl 9 t s.size ∧ 0 < s.size := by
  unfold strS at h
  by_cases c : AllB quoB t
  · rw [if_pos c] at h
    cases h
    exact ⟨rd_text c, by rw [ByteArray.size_append, ByteArray.size_append]; show 0 < 1 + (dqt t).size + 1; omega⟩
  · rw [if_neg c] at h; cases h
/-- What Print tells is read as that token. -/
theorem print_rd {k : Int} {t s : ByteArray} (h : printS k t = (s, 0)) : lk s 0 true = .whl k t s.size ∧ 0 < s.size := by
  unfold printS at h
  by_cases h3 : k = 3
  · rw [if_pos h3] at h; rw [h3]; exact sym_rd h
  rw [if_neg h3] at h
  by_cases h4 : k = 4
  · rw [if_pos h4] at h; rw [h4]; exact key_rd h
  rw [if_neg h4] at h
  by_cases h9 : k = 9
  · rw [if_pos h9] at h; rw [h9]; exact str_rd h
  rw [if_neg h9] at h
  unfold chkS at h
  cases c : chk (telR (wrt k t) true [] false 0) k t with
  | true =>
    rw [c] at h
    cases h
    exact (chk_one ⟨h3, h4, h9⟩ c).2.2
  | false =>
    rw [c] at h
    cases h
theorem print_prt {k : Int} {t : ByteArray} (h : Prt k t) : (printS k t).2 = 0 := by
  unfold printS
  rcases h with ⟨rfl, h⟩ | ⟨rfl, h⟩ | ⟨rfl, h⟩ | ⟨h3, h4, h9, h⟩
  · rw [if_pos rfl]
    unfold symS
    by_cases c : Pl t
    · rw [if_pos c]
    · rw [if_neg c, if_pos (h.resolve_left c)]
  · rw [if_neg (by decide), if_pos rfl]
    unfold keyS
    rw [if_pos h]
  · rw [if_neg (by decide), if_neg (by decide), if_pos rfl]
    unfold strS
    rw [if_pos h]
  · rw [if_neg h3, if_neg h4, if_neg h9]
    unfold chkS
    by_cases h0 : 0 < (wrt k t).size
    · rw [chk_yes h0 h]
      rfl
    · exfalso
      obtain ⟨_, h2⟩ := lk_front h
      have hb : bt (wrt k t) 0 = 0 := by
        unfold bt
        rw [get!_beyond _ _ h0]; rfl
      unfold lk at h
      rw [hb, if_neg (by decide), if_neg (by decide), if_neg (by decide), if_neg (by decide), if_neg (by decide), if_neg (by decide), if_neg (by decide), if_neg (by decide)] at h
      cases h
theorem print_size (k : Int) (t : ByteArray) : (printS k t).1.size ≤ 2 * t.size + 2 := by
  have hd := dqt_size t
  have hw := wrt_size k t
  have e0 : nul.size = 0 := rfl
  unfold printS symS keyS strS chkS
  split
  · split
    · simp only; omega
    · split
      · rw [ByteArray.size_append, ByteArray.size_append]; show 1 + t.size + 1 ≤ _; omega
      · simp only [e0]; omega
  · split
    · split
      · rw [ByteArray.size_append]; show 1 + t.size ≤ _; omega
      · simp only [e0]; omega
    · split
      · split
        · rw [ByteArray.size_append, ByteArray.size_append]; show 1 + (dqt t).size + 1 ≤ _; omega
        · simp only [e0]; omega
      · cases chk (telR (wrt k t) true [] false 0) k t with
        | true => simp only [cond_true]; omega
        | false => simp only [cond_false, e0]; omega

/-! ### The reference's Print -/
end Go.FK


/- Tokens: TokensSpread. -/
namespace Go.FK

variable {S : ByteArray}
def bl1 : ByteArray := ByteArray.mk #[32]
/-- The printed tokens, a blank behind each. -/
def cat (l : List TK) : ByteArray := l.foldl (fun a x => a ++ (printS x.1 x.2.1).1 ++ bl1) nul
theorem cat_snoc (l : List TK) (x : TK) : cat (l ++ [x]) = cat l ++ (printS x.1 x.2.1).1 ++ bl1 := by unfold cat; rw [List.foldl_append]; rfl
def wsum : List TK → Nat
  | [] => 0
  | x :: l => 2 * x.2.1.size + 3 + wsum l
theorem wsum_append : ∀ (l m : List TK), wsum (l ++ m) = wsum l + wsum m
  | [], m => by show wsum m = 0 + wsum m; omega
  | x :: l, m => by
    show 2 * x.2.1.size + 3 + wsum (l ++ m) = 2 * x.2.1.size + 3 + wsum l + wsum m
    rw [wsum_append l m]; omega
/-- What is told of a text is small, and can be printed. -/
theorem tel_wsum {l : List TK} {j : Nat} {c : Bool} : wsum l ≤ 5 * j → j ≤ S.size → wsum (telP S true l j c).1 ≤ 5 * S.size :=
  telP_ind (S := S) (fin := true) (P := fun l j _ r => wsum l ≤ 5 * j → j ≤ S.size → wsum r.1 ≤ 5 * S.size) (fun _ _ _ _ h1 h2 => by simp only; omega) (fun _ _ _ _ _ _ h1 h2 => by simp only; omega) (fun _ _ _ _ _ _ _ _ _ _ h1 h2 => by simp only; omega)
    (fun l j c k t e r h hl he h3 _ ih h1 h2 => ih (by
      have hlen := len_lk (S := S) (i := j) (fin := true) h
      rw [hl] at hlen
      have h5 := hlen.2.2.1
      have := (gapS_ge S false e).1
      rw [wsum_append]
      show wsum l + (2 * t.size + 3 + 0) ≤ _
      omega) ((gapS_ge S false e).2 h3)) _ l j c (Nat.le_refl _)
theorem tel_prt {l : List TK} {j : Nat} {c : Bool} : (∀ x ∈ l, Prt x.1 x.2.1) → ∀ x ∈ (telP S true l j c).1, Prt x.1 x.2.1 :=
  telP_ind (S := S) (fin := true) (P := fun l _ _ r => (∀ x ∈ l, Prt x.1 x.2.1) → ∀ x ∈ r.1, Prt x.1 x.2.1) (fun _ _ _ _ h => h) (fun _ _ _ _ _ _ h => h) (fun _ _ _ _ _ _ _ _ _ _ h => h)
    (fun l j c k t e r h hl he h3 _ ih h1 => ih (fun x hx => by
      rcases List.mem_append.1 hx with hx | hx
      · exact h1 x hx
      · rw [List.mem_singleton.1 hx]
        exact prt_lk h hl)) _ l j c (Nat.le_refl _)

abbrev kt (x : TK) : Int × ByteArray := (x.1, x.2.1)
/-- What is spread is read again. -/
theorem cat_tel {L : List TK} (hp : ∀ x ∈ L, Prt x.1 x.2.1) : ∀ n, n ≤ L.length → ∃ l, telR (cat (L.take n)) false [] false 0 = (l, .ok (cat (L.take n)).size false) ∧ l.map kt = (L.take n).map kt := by
  intro n
  induction n with
  | zero =>
    intro _
    have he : ¬ 0 < (cat (L.take 0)).size := by rw [List.take_zero]; decide
    refine ⟨[], ?_, by rw [List.take_zero]⟩
    unfold telR
    rw [gapS_end he, telP_end he, show (cat (L.take 0)).size = 0 by omega]
  | succ n ih =>
    intro hn
    obtain ⟨l, h1, h2⟩ := ih (by omega)
    have hlt : n < L.length := by omega
    rw [List.take_succ_eq_append_getElem hlt, cat_snoc]
    have hx := hp _ (List.getElem_mem hlt)
    generalize L[n] = x at *
    have hpe : printS x.1 x.2.1 = ((printS x.1 x.2.1).1, 0) := by rw [← print_prt hx]
    obtain ⟨h3, h4⟩ := print_rd hpe
    generalize (printS x.1 x.2.1).1 = s at *
    generalize cat (L.take n) = A at *
    have hsz : (A ++ s ++ bl1).size = A.size + s.size + 1 := by rw [ByteArray.size_append, ByteArray.size_append]; rfl
    have has : (A ++ s).size = A.size + s.size := ByteArray.size_append
    have hmore := (tel_more (P := s ++ bl1) (b := false) h1).2
    rw [← ByteArray.append_assoc] at hmore
    have hcut := cut_mid A s bl1
    have h32 : bt (A ++ s ++ bl1) (A.size + s.size) = 32 := by
      have := bt_right (A := A ++ s) (B := bl1) (j := 0) (by decide)
      rw [has] at this
      exact this
    have hlk : lk (A ++ s ++ bl1) A.size false = .whl x.1 x.2.1 (A.size + s.size) :=
      emb_lk (T := A ++ s ++ bl1) (a := A.size) (n := s.size) (.inl ⟨by omega, h32⟩) (by omega) h4 (by rw [hcut]; exact h3)
    obtain ⟨f1, f2⟩ := lk_front hlk
    have hr : telR (A ++ s ++ bl1) false [] false A.size = ([tok (A ++ s ++ bl1) x.1 x.2.1 A.size (A.size + s.size)], .ok (A ++ s ++ bl1).size false) := by
      unfold telR
      rw [gapS_stop (by omega) f1 f2, telP_whl (by omega) hlk (by omega), gapS_blank (by omega) (by rw [h32]; decide) (by rw [h32]; decide), gapS_end (by omega), telP_end (by simp only; omega)]
      simp only [hsz]
      rfl
    rw [hr] at hmore
    exact ⟨_, hmore, by rw [List.map_append, List.map_append, h2]; rfl⟩
theorem cat_all {L : List TK} (hp : ∀ x ∈ L, Prt x.1 x.2.1) : ∃ l c j, telR (cat L) true [] false 0 = (l, .ok j c) ∧ l.map kt = L.map kt := by
  obtain ⟨l, h1, h2⟩ := cat_tel hp L.length (Nat.le_refl _)
  rw [List.take_length] at h1 h2
  have := tel_end h1
  have hz : telR (cat L) true [] false (cat L).size = ([], .ok (cat L).size false) := by
    unfold telR
    rw [gapS_end (by omega), telP_end (by simp)]
  rw [hz, List.append_nil] at this
  exact ⟨l, _, _, this, h2⟩
theorem cat_size (l : List TK) : (cat l).size ≤ wsum l := by
  have key : ∀ n, n ≤ l.length → (cat (l.take n)).size ≤ wsum (l.take n) := by
    intro n
    induction n with
    | zero => intro _; rw [List.take_zero]; exact Nat.le_refl _
    | succ n ih =>
      intro hn
      have hlt : n < l.length := by omega
      have := ih (by omega)
      rw [List.take_succ_eq_append_getElem hlt, cat_snoc, wsum_append, ByteArray.size_append, ByteArray.size_append]
      have h1 := print_size l[n].1 l[n].2.1
      show _ + _ + 1 ≤ _ + (2 * l[n].2.1.size + 3 + 0)
      omega
  have := key l.length (Nat.le_refl _)
  rwa [List.take_length] at this
theorem wsum_take (l : List TK) (n : Nat) : wsum (l.take n) ≤ wsum l := by
  have := wsum_append (l.take n) (l.drop n)
  rw [List.take_append_drop] at this
  omega
theorem nthD_mp {α β : Type} (f : α → β) (d : α) : ∀ (l : List α) (n : Nat), f (nthD d l n) = nthD (f d) (l.map f) n := by
  intro l n
  rw [nthD_eq, nthD_eq, List.getD_eq_getElem?_getD, List.getD_eq_getElem?_getD, List.getElem?_map]
  cases l[n]? <;> rfl
theorem nthD_mem {α : Type} {d : α} {l : List α} {n : Nat} (h : n < l.length) : nthD d l n = l[n] := by
  rw [nthD_eq, List.getD_eq_getElem?_getD, List.getElem?_eq_getElem h]
  rfl

theorem spread_4 {L M : List TK} (hL : L.length ≤ 4294967280) (h : M.map kt = L.map kt) : ∀ q i, q + i = L.length → Ev (fun k => law12_TokensSpread.p4 k L M (i : Int)) true := by
  have hlen : M.length = L.length := by
    have := congrArg List.length h
    rwa [List.length_map, List.length_map] at this
  intro q
  induction q with
  | zero =>
    intro i hi
    refine Ev.turn (fun k => law12_TokensSpread.p4_succ k _ _ _) ?_
    unfold law12_TokensSpread.e4
    exact Ev.fls (dec_f (by omega)) (Ev.pass awake_ev)
  | succ q ih =>
    intro i hi
    refine Ev.turn (fun k => law12_TokensSpread.p4_succ k _ _ _) ?_
    unfold law12_TokensSpread.e4
    have hk : kt (nthD zP M i) = kt (nthD zP L i) := by rw [nthD_mp kt, nthD_mp kt, h]
    have hk1 : (nthD zP M i).1 = (nthD zP L i).1 := (Prod.mk.inj hk).1
    have hk2 : (nthD zP M i).2.1 = (nthD zP L i).2.1 := (Prod.mk.inj hk).2
    rw [w1 (by omega), Int.toNat_natCast, hk1, hk2]
    exact Ev.tru (dec_t (by omega)) (Ev.tru (by simp; omega) (Ev.tru (by simp; omega) (Ev.fls (by rw [dec_t rfl]; rfl) (Ev.tru (by simp; omega) (Ev.tru (by simp; omega) (Ev.fls (by rw [toList_beq]; rfl) (ih (i + 1) (by omega))))))))

theorem spread_0 {L : List TK} (hw : wsum L ≤ 1073741000) (hp : ∀ x ∈ L, Prt x.1 x.2.1) (hL : L.length ≤ 4294967280) : ∀ q i, q + i = L.length → Ev (fun k => law12_TokensSpread.p0 k L (cat (L.take i)) (i : Int)) true := by
  intro q
  induction q with
  | zero =>
    intro i hi
    obtain rfl : i = L.length := by omega
    refine Ev.turn (fun k => law12_TokensSpread.p0_succ k _ _ _) ?_
    unfold law12_TokensSpread.e0
    rw [List.take_length]
    have hsz := cat_size L
    obtain ⟨l, c, j, h1, h2⟩ := cat_all hp
    have hall := all_ev (S := cat L) (by omega)
    rw [h1] at hall
    have hlen : l.length = L.length := by
      have := congrArg List.length h2
      rwa [List.length_map, List.length_map] at this
    refine Ev.fls (dec_f (by omega)) (Ev.bind hall (Ev.fls rfl (Ev.fls ?_ (spread_4 hL h2 L.length 0 (by omega)))))
    show (!decide ((l.length : Int) = (L.length : Int))) = false
    rw [dec_t (by omega)]
    rfl
  | succ q ih =>
    intro i hi
    have hlt : i < L.length := by omega
    refine Ev.turn (fun k => law12_TokensSpread.p0_succ k _ _ _) ?_
    unfold law12_TokensSpread.e0
    rw [w1 (by omega), Int.toNat_natCast, nthD_mem hlt]
    have := ih (i + 1) (by omega)
    rw [List.take_succ_eq_append_getElem hlt, cat_snoc] at this
    have hc := cat_size (L.take (i + 1))
    have hc2 := wsum_take L (i + 1)
    have hc3 := wsum_append (L.take i) [L[i]]
    have hx := hp _ (List.getElem_mem hlt)
    rw [List.take_succ_eq_append_getElem hlt] at hc hc2
    rw [hc3] at hc2
    have hw2 : wsum [L[i]] = 2 * L[i].2.1.size + 3 + 0 := rfl
    rw [cat_snoc, ByteArray.size_append, ByteArray.size_append] at hc
    refine Ev.tru (dec_t (by omega)) (Ev.tru (by simp; omega) (Ev.bind (print_ev L[i] (by omega)) ?_))
    rw [hc3] at hc
    refine Ev.fls (by rw [print_prt hx]; rfl) (Ev.fls (sz_ok ?_) (Ev.fls (sz_ok ?_) this))
    · omega
    · rw [ByteArray.size_append]
      show _ + _ + 1 ≤ _
      omega

theorem spread_ev (hS : S.size ≤ 16777216) : Ev (fun k => law12_TokensSpread.f k S) true := by
  unfold law12_TokensSpread.f law12_TokensSpread.e
  refine Ev.bind (all_ev (by omega)) ?_
  obtain ⟨a1, a2⟩ := all_enc (telR S true [] false 0) S
  rw [a1, a2]
  by_cases h : finE (telR S true [] false 0).2 = 0
  · have hge := gapS_ge S false 0
    have hw : wsum (telR S true [] false 0).1 ≤ 5 * S.size := tel_wsum (Nat.zero_le _) (hge.2 (Nat.zero_le _))
    have hp : ∀ x ∈ (telR S true [] false 0).1, Prt x.1 x.2.1 := tel_prt (fun x hx => by cases hx)
    have hl : (telR S true [] false 0).1.length ≤ S.size := telR_len (Nat.zero_le _)
    exact Ev.fls (by rw [dec_t h]; rfl) (spread_0 (by omega) hp (by omega) _ 0 (Nat.add_zero _))
  · exact Ev.tru (by rw [dec_f h]; rfl) (Ev.pass awake_ev)

theorem spread_math (x : TD [.str]) (_hw : wfDs (encT [.str] x)) (hm : massDs (encT [.str] x) ≤ 1048576) : ∃ k, law12_TokensSpread.f k x = some true := by
  have hm' : Ty.str.mass x + 0 ≤ 1048576 := hm
  have : (show ByteArray from x).size ≤ Ty.str.mass x := by
    show _ ≤ _
    first | exact Nat.le_refl _ | exact Nat.le_succ _ | (simp only [Ty.mass]; omega)
  exact (spread_ev (S := x) (by have h : (show ByteArray from x).size ≤ 16777216 := by omega
                                exact h)).some

end Go.FK
