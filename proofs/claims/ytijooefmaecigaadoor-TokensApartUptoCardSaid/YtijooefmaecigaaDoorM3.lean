import Derived.Test.YtijooefmaecigaaDoorM2
import Derived.Test.YtijooefmaecigaaDoorF3

/- Tokens: a text's tokens, by the program and by the reference; the same of a text that comes in pieces. -/
namespace Go.FK

/-- How a reading ends: the place behind what was told (c: within a comment), or an error and where. -/
inductive Fi where
  | ok (j : Nat) (c : Bool)
  | err (code : Int) (a : Nat) (c : Bool)

def tok (S : ByteArray) (k : Int) (t : ByteArray) (j e : Nat) : TK := (k, t, (j : Int), (e : Int), ((lc S j).1 : Int), ((lc S j).2 : Int))
/-- The tokens from j on, behind those of l. -/
def telP (S : ByteArray) (fin : Bool) (l : List TK) (j : Nat) (c : Bool) : List TK × Fi :=
  if _h : j < S.size then
    match lk S j fin with
    | .opn => (l, .ok j c)
    | .bad cd a => (l, .err cd a c)
    | .whl k t e => if _h2 : j < e then telP S fin (l ++ [tok S k t j e]) (gapS S false e).1 (gapS S false e).2 else (l, .ok j c)
  else (l, .ok j c)
termination_by S.size - j
decreasing_by
  have := (gapS_ge S false e).1
  omega
def telR (S : ByteArray) (fin : Bool) (l : List TK) (c : Bool) (i : Nat) : List TK × Fi := telP S fin l (gapS S c i).1 (gapS S c i).2

variable {S : ByteArray} {fin : Bool}
theorem telP_end {l : List TK} {j : Nat} {c : Bool} (h : ¬ j < S.size) : telP S fin l j c = (l, .ok j c) := by rw [telP, dif_neg h]
theorem telP_opn {l : List TK} {j : Nat} {c : Bool} (h : j < S.size) (hl : lk S j fin = .opn) : telP S fin l j c = (l, .ok j c) := by rw [telP, dif_pos h]; simp only [hl]
theorem telP_bad {l : List TK} {j : Nat} {c : Bool} {cd : Int} {a : Nat} (h : j < S.size) (hl : lk S j fin = .bad cd a) : telP S fin l j c = (l, .err cd a c) := by rw [telP, dif_pos h]; simp only [hl]
theorem telP_whl {l : List TK} {j : Nat} {c : Bool} {k : Int} {t : ByteArray} {e : Nat} (h : j < S.size) (hl : lk S j fin = .whl k t e) (he : j < e) : telP S fin l j c = telP S fin (l ++ [tok S k t j e]) (gapS S false e).1 (gapS S false e).2 := by
  rw [telP, dif_pos h]
  simp only [hl, dif_pos he]

/-- By the tokens, one after another. -/
theorem telP_ind {P : List TK → Nat → Bool → List TK × Fi → Prop} (hend : ∀ l j c, ¬ j < S.size → P l j c (l, .ok j c)) (hopn : ∀ l j c, j < S.size → fin = false → lk S j fin = .opn → P l j c (l, .ok j c))
    (hbad : ∀ l j c cd a, j < S.size → lk S j fin = .bad cd a → j ≤ a → a < S.size → (cd = 120 ∨ cd = 121) → P l j c (l, .err cd a c))
    (hwhl : ∀ l j c k t e r, j < S.size → lk S j fin = .whl k t e → j < e → e ≤ S.size → t.size ≤ S.size → P (l ++ [tok S k t j e]) (gapS S false e).1 (gapS S false e).2 r → P l j c r) : ∀ m l j c, S.size - j ≤ m → P l j c (telP S fin l j c) := by
  intro m
  induction m with
  | zero =>
    intro l j c hm
    rw [telP_end (by omega)]
    exact hend l j c (by omega)
  | succ m ih =>
    intro l j c hm
    by_cases h : j < S.size
    · have hok := ok_lk (S := S) (i := j) (fin := fin) h
      cases hl : lk S j fin with
      | opn =>
        rw [hl] at hok
        rw [telP_opn h hl]
        exact hopn l j c h hok hl
      | bad cd a =>
        rw [hl] at hok
        rw [telP_bad h hl]
        exact hbad l j c cd a h hl hok.1 hok.2.1 hok.2.2
      | whl k t e =>
        rw [hl] at hok
        have := (gapS_ge S false e).1
        have h1 := hok.1
        rw [telP_whl h hl hok.1]
        exact hwhl l j c k t e _ h hl hok.1 hok.2.1 hok.2.2 (ih _ _ _ (by omega))
    · rw [telP_end h]
      exact hend l j c h

theorem telP_len {l : List TK} {j : Nat} {c : Bool} (hl : l.length ≤ j) (hj : j ≤ S.size) : (telP S fin l j c).1.length ≤ S.size :=
  telP_ind (P := fun l j _ r => l.length ≤ j → j ≤ S.size → r.1.length ≤ S.size) (fun _ _ _ _ h1 h2 => by simp only; omega) (fun _ _ _ _ _ _ h1 h2 => by simp only; omega) (fun _ _ _ _ _ _ _ _ _ _ h1 h2 => by simp only; omega)
    (fun l j c k t e r h hl he h3 _ ih h1 h2 => ih (by have := (gapS_ge S false e).1; simp; omega) ((gapS_ge S false e).2 h3)) _ l j c (Nat.le_refl _) hl hj
/-- An end within a text. -/
def FiOk (S : ByteArray) (i : Nat) : Fi → Prop
  | .ok j _ => i ≤ j ∧ j ≤ S.size
  | .err cd a _ => i ≤ a ∧ a < S.size ∧ (cd = 120 ∨ cd = 121)
theorem FiOk.mono {i i' : Nat} (h : i ≤ i') : ∀ {f : Fi}, FiOk S i' f → FiOk S i f
  | .ok _ _, hf => ⟨Nat.le_trans h hf.1, hf.2⟩
  | .err _ _ _, hf => ⟨Nat.le_trans h hf.1, hf.2⟩
theorem telP_fi {l : List TK} {j : Nat} {c : Bool} (hj : j ≤ S.size) : FiOk S j (telP S fin l j c).2 :=
  telP_ind (P := fun _ j _ r => j ≤ S.size → FiOk S j r.2) (fun _ _ _ _ h => ⟨Nat.le_refl _, h⟩) (fun _ _ _ _ _ _ h => ⟨Nat.le_refl _, h⟩) (fun _ _ _ _ _ _ _ h1 h2 h3 _ => ⟨h1, h2, h3⟩)
    (fun l j c k t e r h hl he h3 _ ih h2 => (ih ((gapS_ge S false e).2 h3)).mono (by have := (gapS_ge S false e).1; omega)) _ l j c (Nat.le_refl _) hj
theorem telP_app {l : List TK} {j : Nat} {c : Bool} : ∀ l0, telP S fin (l0 ++ l) j c = (l0 ++ (telP S fin l j c).1, (telP S fin l j c).2) := by
  refine telP_ind (P := fun l j c r => ∀ l0, telP S fin (l0 ++ l) j c = (l0 ++ r.1, r.2)) (fun l j c h l0 => ?_) (fun l j c h _ hl l0 => ?_) (fun l j c cd a h hl _ _ _ l0 => ?_) (fun l j c k t e r h hl he _ _ ih l0 => ?_) _ l j c (Nat.le_refl _)
  · rw [telP_end h]
  · rw [telP_opn h hl]
  · rw [telP_bad h hl]
  · rw [telP_whl h hl he, List.append_assoc, ih l0]

/-! ### The program's tell -/
def encS (S : ByteArray) : List TK × Fi → SC × List TK × Int
  | (l, .ok j c) => (scn S 1 j c 0, l, 0)
  | (l, .err cd a c) => (scn S 3 a c cd, l, cd)

theorem clone_ev {t : ByteArray} (h : t.size ≤ 281474976710656) : Ev (fun k => strings_Clone.f k t) t := by
  unfold strings_Clone.f strings_Clone.e
  refine Ev.pass ⟨0, fun k _ => ?_⟩
  unfold stringslite_Clone.f
  rw [dec_t h]
  rfl

theorem tell_loop (hS : S.size ≤ 4294967280) {l : List TK} {j : Nat} {c : Bool} : j ≤ S.size → l.length ≤ j → (j < S.size → c = false) → Ev (fun k => tokens_Scanner_tell.p0 k (scn S 1 j c 0) l fin) (encS S (telP S fin l j c)) := by
  have hne : ∀ {j : Nat} {c : Bool}, j < S.size → (!((scn S 1 j c 0).2.1.toList == (ByteArray.mk #[]).toList)) = true := fun h => by
    rw [show (scn S 1 _ _ 0).2.1 = rst S _ from rfl, empty_beq, rst_size, dec_f (by omega)]
    rfl
  refine telP_ind (P := fun l j c r => j ≤ S.size → l.length ≤ j → (j < S.size → c = false) → Ev (fun k => tokens_Scanner_tell.p0 k (scn S 1 j c 0) l fin) (encS S r)) (fun l j c h hj hl hc => ?_) (fun l j c h hf hlk hj hl hc => ?_) (fun l j c cd a h hlk h1 h2 h3 hj hl hc => ?_) (fun l j c k t e r h hlk he h3 ht ih hj hl hc => ?_) _ l j c (Nat.le_refl _)
  · refine Ev.turn (fun k => tokens_Scanner_tell.p0_succ k _ _ _) ?_
    unfold tokens_Scanner_tell.e0
    rw [show (scn S 1 j c 0).2.1 = rst S j from rfl, empty_beq, rst_size]
    exact Ev.fls (by rw [dec_t (by omega)]; rfl) Ev.pure
  · refine Ev.turn (fun k => tokens_Scanner_tell.p0_succ k _ _ _) ?_
    unfold tokens_Scanner_tell.e0
    obtain ⟨r, hr, hrel⟩ := front_fr (fin := fin) hS h
    rw [hlk] at hrel
    refine Ev.tru (hne h) (Ev.bind hr ?_)
    obtain ⟨hm, _⟩ := hrel
    rw [hm, hf]
    exact Ev.tru rfl (Ev.tru rfl Ev.pure)
  · refine Ev.turn (fun k => tokens_Scanner_tell.p0_succ k _ _ _) ?_
    unfold tokens_Scanner_tell.e0
    obtain ⟨r, hr, hrel⟩ := front_fr (fin := fin) hS h
    rw [hlk] at hrel
    obtain ⟨hc0, hcd, hsz, hm⟩ := hrel
    refine Ev.tru (hne h) (Ev.bind hr ?_)
    have h17 : Ev (fun k => tokens_Scanner_tell.p17 k (scn S 1 j c 0) l r fin) (encS S (l, .err cd a c)) := by
      refine Ev.turn (fun k => tokens_Scanner_tell.p17_succ k _ _ _ _) ?_
      unfold tokens_Scanner_tell.e17
      refine Ev.tru (by rw [hcd, dec_f hc0]; rfl) (Ev.turn (fun k => tokens_Scanner_tell.p19_succ k _ _ _) ?_)
      unfold tokens_Scanner_tell.e19
      have := pass_ev hS (i := j) (n := a - j) (by omega) 1 c 0
      rw [show j + (a - j) = a by omega] at this
      rw [hsz, hcd, show ((a : Int) - (j : Int)) = ((a - j : Nat) : Int) by omega]
      exact Ev.bind this Ev.pure
    cases hmm : r.2.2.2.1 with
    | false => exact Ev.fls rfl h17
    | true =>
      rw [hm hmm] at h17 ⊢
      exact Ev.tru rfl (Ev.fls rfl h17)
  · refine Ev.turn (fun k => tokens_Scanner_tell.p0_succ k _ _ _) ?_
    unfold tokens_Scanner_tell.e0
    obtain ⟨r0, hr, hrel⟩ := front_fr (fin := fin) hS h
    rw [hlk] at hrel
    simp only [RelF] at hrel
    subst hrel
    refine Ev.tru (hne h) (Ev.bind hr (Ev.fls rfl (Ev.turn (fun k => tokens_Scanner_tell.p17_succ k _ _ _ _) ?_)))
    unfold tokens_Scanner_tell.e17
    have hp := pass_ev hS (i := j) (n := e - j) (by omega) 1 c 0
    rw [show j + (e - j) = e by omega] at hp
    have hg := skip_ev hS 1 0 _ false e (Nat.le_refl _) h3
    have hlj := lc_le S j
    have e1 : IntKind.i64.wrap ((scn S 1 j c 0).2.2.2.1.2.2.1 + ((e : Int) - (j : Int))) = (e : Int) := by
      show IntKind.i64.wrap ((j : Int) + ((e : Int) - (j : Int))) = _
      rw [wr (by omega) (by omega)]; omega
    have hcf := hc h
    subst hcf
    dsimp only
    rw [e1, show ((e : Int) - (j : Int)) = ((e - j : Nat) : Int) by omega]
    refine Ev.fls rfl (Ev.fls rfl (Ev.bind (clone_ev (by omega)) (Ev.tru (by simpa using ble_bound (n := l.length + 1) (by omega) 56 (by omega)) (Ev.bind hp (Ev.bind hg ?_)))))
    exact ih ((gapS_ge S false e).2 h3) (by have := (gapS_ge S false e).1; simp; omega) (fun hx => (gapS_at S false e hx).1)

theorem tell_ev (hS : S.size ≤ 4294967280) {i : Nat} (hi : i ≤ S.size) (c : Bool) : Ev (fun k => tokens_Scanner_tell.f k (scn S 1 i c 0) fin) (encS S (telR S fin [] c i)) := by
  unfold tokens_Scanner_tell.f tokens_Scanner_tell.e telR
  exact Ev.bind (skip_ev hS 1 0 _ c i (Nat.le_refl _) hi) (tell_loop hS ((gapS_ge S c i).2 hi) (by simp) (fun hx => (gapS_at S c i hx).1))

/-! ### The reference's Read -/
def encR : List TK × Fi → List TK × Int × Int
  | (l, .ok j _) => (l, 0, (j : Int))
  | (l, .err cd a _) => (l, cd, (a : Int))

theorem read_lines (hS : S.size ≤ 4294967280) {l : List TK} {x : SE} {j : Nat} (hj : j ≤ S.size) {R : List TK × Int × Int} (hfin : ∀ bg : Int, bg + ((lc S j).2 : Int) = (j : Int) + 1 → Ev (fun k => ref12_Read.p4 k l x S fin ((lc S j).1 : Int) bg (j : Int) (j : Int)) R) :
    ∀ m d, m + d = j → ∀ bg : Int, bg + ((lc S d).2 : Int) = (d : Int) + 1 → Ev (fun k => ref12_Read.p4 k l x S fin ((lc S d).1 : Int) bg (d : Int) (j : Int)) R := by
  intro m
  induction m with
  | zero =>
    intro d hd bg hbg
    obtain rfl : d = j := by omega
    exact hfin bg hbg
  | succ m ih =>
    intro d hd bg hbg
    have hl := lc_le S d
    refine Ev.turn (fun k => ref12_Read.p4_succ k _ _ _ _ _ _ _ _) ?_
    unfold ref12_Read.e4
    have e1 : IntKind.i64.wrap (((d + 1 : Nat) : Int) - 1) = ((d : Nat) : Int) := by rw [wr (by omega) (by omega)]; omega
    rw [w1 (by omega), w1 (by omega), e1, btI_bt S (by omega)]
    refine Ev.tru (dec_t (by omega)) (Ev.tru (by simp; omega) ?_)
    by_cases c : bt S d = 10
    · have := ih (d + 1) (by omega) ((d + 1 : Nat) : Int) (by rw [lc_line c]; simp only; omega)
      rw [lc_line c] at this
      exact Ev.tru (dec_t c) this
    · have := ih (d + 1) (by omega) bg (by rw [lc_in c]; simp only; omega)
      rw [lc_in c] at this
      exact Ev.fls (dec_f c) this

theorem read_loop (hS : S.size ≤ 4294967280) {l : List TK} {j : Nat} {c : Bool} : j ≤ S.size → l.length ≤ j → ∀ d, d ≤ j → ∀ bg : Int, bg + ((lc S d).2 : Int) = (d : Int) + 1 → Ev (fun k => ref12_Read.p0 k l S fin ((lc S d).1 : Int) bg (d : Int) (j : Int)) (encR (telP S fin l j c)) := by
  refine telP_ind (P := fun l j c r => j ≤ S.size → l.length ≤ j → ∀ d, d ≤ j → ∀ bg : Int, bg + ((lc S d).2 : Int) = (d : Int) + 1 → Ev (fun k => ref12_Read.p0 k l S fin ((lc S d).1 : Int) bg (d : Int) (j : Int)) (encR r)) (fun l j c h hj hl d hd bg hbg => ?_) (fun l j c h hf hlk hj hl d hd bg hbg => ?_) (fun l j c cd a h hlk h1 h2 h3 hj hl d hd bg hbg => ?_) (fun l j c k t e r h hlk he h3 ht ih hj hl d hd bg hbg => ?_) _ l j c (Nat.le_refl _)
  · refine Ev.turn (fun k => ref12_Read.p0_succ k _ _ _ _ _ _ _) ?_
    unfold ref12_Read.e0
    exact Ev.fls (dec_f (by omega)) Ev.pure
  · refine Ev.turn (fun k => ref12_Read.p0_succ k _ _ _ _ _ _ _) ?_
    unfold ref12_Read.e0
    have := look_ev (fin := fin) hS h
    rw [hlk] at this
    exact Ev.tru (dec_t (by omega)) (Ev.bind this (Ev.tru rfl Ev.pure))
  · refine Ev.turn (fun k => ref12_Read.p0_succ k _ _ _ _ _ _ _) ?_
    unfold ref12_Read.e0
    have := look_ev (fin := fin) hS h
    rw [hlk] at this
    exact Ev.tru (dec_t (by omega)) (Ev.bind this (Ev.fls rfl (Ev.tru rfl Ev.pure)))
  · refine Ev.turn (fun k => ref12_Read.p0_succ k _ _ _ _ _ _ _) ?_
    unfold ref12_Read.e0
    have := look_ev (fin := fin) hS h
    rw [hlk] at this
    refine Ev.tru (dec_t (by omega)) (Ev.bind this (Ev.fls rfl (Ev.fls rfl ?_)))
    refine read_lines hS hj (fun bg2 hbg2 => ?_) (j - d) d (by omega) bg hbg
    refine Ev.turn (fun k => ref12_Read.p4_succ k _ _ _ _ _ _ _ _) ?_
    unfold ref12_Read.e4
    have hlj := lc_le S j
    have e2 : IntKind.i64.wrap (IntKind.i64.wrap ((j : Int) - bg2) + 1) = ((lc S j).2 : Int) := by rw [wr (n := (j : Int) - bg2) (by omega) (by omega), wr (by omega) (by omega)]; omega
    rw [e2]
    refine Ev.fls (dec_f (by omega)) (Ev.tru (by simpa using ble_bound (n := l.length + 1) (by omega) 56 (by omega)) (Ev.bind (rgap_ev hS h3) ?_))
    exact ih ((gapS_ge S false e).2 h3) (by have := (gapS_ge S false e).1; simp; omega) j (by have := (gapS_ge S false e).1; omega) bg2 hbg2

theorem read_ev (hS : S.size ≤ 4294967280) : Ev (fun k => ref12_Read.f k S fin) (encR (telR S fin [] false 0)) := by
  unfold ref12_Read.f ref12_Read.e telR
  exact Ev.bind (rgap_ev hS (i := 0) (Nat.zero_le _)) (read_loop hS ((gapS_ge S false 0).2 (Nat.zero_le _)) (by simp) 0 (Nat.zero_le _) 0 (by simp [lc]))

/-! ### More of a text -/
section
variable {T : ByteArray} {n : Nat}
/-- The head of a text. -/
abbrev hd (T : ByteArray) (n : Nat) : ByteArray := T.extract 0 n
theorem hd_size (hn : n ≤ T.size) : (hd T n).size = n := by rw [ext_size T hn]; omega
theorem hd_bt (hn : n ≤ T.size) {j : Nat} (h : j < n) : bt (hd T n) j = bt T j := by
  have := bt_ext T (i := 0) hn (j := j) (by omega)
  rwa [Nat.zero_add] at this
theorem hd_ext {a b : Nat} (h : b ≤ n) : (hd T n).extract a b = T.extract a b := by
  rw [ByteArray.extract_extract, Nat.zero_add, Nat.zero_add, Nat.min_eq_left h]
theorem hd_txt {a b : Nat} (h : b ≤ n) : txt (hd T n) a b = txt T a b := by unfold txt; rw [hd_ext h]
theorem hd_lc (hn : n ≤ T.size) : ∀ {j : Nat}, j ≤ n → lc (hd T n) j = lc T j
  | 0, _ => rfl
  | j + 1, h => by unfold lc; rw [hd_bt hn h, hd_lc hn (show j ≤ n by omega)]
theorem hd_run (hn : n ≤ T.size) (p : Int → Bool) : ∀ m i, n - i ≤ m → runE p (hd T n) i < n → runE p T i = runE p (hd T n) i := by
  intro m
  induction m with
  | zero =>
    intro i hm h
    rw [runE_end p _ (by rw [hd_size hn]; omega)] at h
    omega
  | succ m ih =>
    intro i hm h
    by_cases hi : i < n
    · cases hp : p (bt T i) with
      | true =>
        have hp' : p (bt (hd T n) i) = true := by rw [hd_bt hn hi]; exact hp
        rw [runE_yes (by rw [hd_size hn]; exact hi) hp'] at h ⊢
        rw [runE_yes (by omega) hp]
        exact ih (i + 1) (by omega) h
      | false =>
        have hp' : p (bt (hd T n) i) = false := by rw [hd_bt hn hi]; exact hp
        rw [runE_no (by rw [hd_size hn]; exact hi) hp', runE_no (by omega) hp]
    · rw [runE_end p _ (by rw [hd_size hn]; exact hi)] at h
      omega
theorem hd_run_le (hn : n ≤ T.size) (p : Int → Bool) {i : Nat} (hi : i ≤ n) : runE p (hd T n) i ≤ n := by
  have := runE_size p (hd T n) (i := i) (by rw [hd_size hn]; exact hi)
  rwa [hd_size hn] at this
/-- A run that goes to the end of the head goes on at least as far in the whole. -/
theorem hd_run_ge (hn : n ≤ T.size) (p : Int → Bool) {i : Nat} (h : runE p (hd T n) i = n) (hi : i ≤ n) : n ≤ runE p T i := by
  rcases Nat.lt_or_ge (runE p T i) n with hlt | hge
  · have hst := runE_stop p T _ i rfl (by omega)
    have key : ∀ m i, n - i ≤ m → i ≤ n → runE p T i < n → runE p (hd T n) i = runE p T i := by
      intro m
      induction m with
      | zero =>
        intro i hm hi h
        have := runE_le p T i
        omega
      | succ m ih =>
        intro i hm hi h
        have hge := runE_le p T i
        have hiN : i < n := by omega
        have hiT : i < T.size := by omega
        have hiH : i < (hd T n).size := by rw [hd_size hn]; exact hiN
        cases hp : p (bt T i) with
        | true =>
          have hp' : p (bt (hd T n) i) = true := by rw [hd_bt hn hiN]; exact hp
          rw [runE_yes hiT hp] at h ⊢
          rw [runE_yes hiH hp']
          exact ih (i + 1) (by omega) (by omega) h
        | false =>
          have hp' : p (bt (hd T n) i) = false := by rw [hd_bt hn hiN]; exact hp
          rw [runE_no hiH hp', runE_no hiT hp]
    have := key _ i (Nat.le_refl _) hi hlt
    omega
  · exact hge

variable {i : Nat} {b : Bool}
theorem hd_ends (hn : n ≤ T.size) {kd : Int} {a e : Nat} (he : e < n) : endsL T i b kd a e = endsL (hd T n) i false kd a e := by
  unfold endsL
  rw [hd_size hn, hd_bt hn he, if_neg (show ¬ (e = T.size ∧ b = false) from fun h => by omega), if_neg (show ¬ (e = n ∧ false = false) from fun h => by omega), hd_ext (by omega)]
  by_cases c : sgB (bt T e) = true
  · rw [if_pos ⟨by omega, c⟩, if_pos ⟨he, c⟩]
  · rw [if_neg (fun h => c h.2), if_neg (fun h => c h.2)]
theorem ends_opn {kd : Int} {a e : Nat} (he : e = S.size) : endsL S i false kd a e = .opn := by unfold endsL; rw [if_pos ⟨he, rfl⟩]
theorem hd_sharpE (hn : n ≤ T.size) {kd : Int} {p : Int → Bool} (hi : i + 2 ≤ n) (h : sharpE (hd T n) i false kd (runE p (hd T n) (i + 2)) ≠ .opn) : sharpE T i b kd (runE p T (i + 2)) = sharpE (hd T n) i false kd (runE p (hd T n) (i + 2)) := by
  have hle := hd_run_le hn p hi
  rcases Nat.lt_or_ge (runE p (hd T n) (i + 2)) n with hlt | hge
  · rw [hd_run hn p _ _ (Nat.le_refl _) hlt]
    unfold sharpE
    by_cases c : runE p (hd T n) (i + 2) = i + 2
    · rw [if_pos c, if_pos c, hd_size hn, if_neg (show ¬ (i + 2 = T.size ∧ b = false) from fun h => by omega), if_neg (show ¬ (i + 2 = n ∧ false = false) from fun h => by omega)]
    · rw [if_neg c, if_neg c]
      exact hd_ends hn hlt
  · refine absurd ?_ h
    unfold sharpE
    by_cases c : runE p (hd T n) (i + 2) = i + 2
    · rw [if_pos c, hd_size hn, if_pos ⟨by omega, rfl⟩]
    · rw [if_neg c, ends_opn (by rw [hd_size hn]; omega)]
theorem hd_word (hn : n ≤ T.size) {kd : Int} {a : Nat} (ha : a ≤ n) (h : wordL (hd T n) i false kd a ≠ .opn) : wordL T i b kd a = wordL (hd T n) i false kd a := by
  have hle := hd_run_le hn sgB ha
  have hge0 := runE_le sgB (hd T n) a
  unfold wordL at h ⊢
  rcases Nat.lt_or_ge (runE sgB (hd T n) a) n with hlt | hge
  · rw [hd_run hn sgB _ _ (Nat.le_refl _) hlt]
    unfold wordE
    rw [hd_size hn, hd_ext (by omega), hd_bt hn (show a < n by omega)]
    by_cases c : a < runE sgB (hd T n) a ∧ digB (bt T a) = true
    · rw [if_pos c, if_pos c]
    · rw [if_neg c, if_neg c, if_neg (show ¬ (runE sgB (hd T n) a = T.size ∧ b = false) from fun h => by omega), if_neg (show ¬ (runE sgB (hd T n) a = n ∧ false = false) from fun h => by omega)]
  · have hgT := hd_run_ge hn sgB (i := a) (by omega) ha
    unfold wordE at h ⊢
    by_cases c : a < runE sgB (hd T n) a ∧ digB (bt (hd T n) a) = true
    · rw [if_pos c]
      have c1 := c.1
      rw [hd_bt hn (by omega)] at c
      rw [if_pos ⟨by omega, c.2⟩]
    · rw [if_neg c, hd_size hn, if_pos ⟨by omega, rfl⟩] at h
      exact absurd rfl h
theorem hd_num (hn : n ≤ T.size) (hi : i < n) (h : numL (hd T n) i false ≠ .opn) : numL T i b = numL (hd T n) i false := by
  have hle := hd_run_le hn digB (Nat.le_of_lt hi)
  unfold numL at h ⊢
  rw [hd_bt hn hi] at h ⊢
  rcases Nat.lt_or_ge (runE digB (hd T n) i) n with hlt | hge
  · rw [hd_run hn digB _ _ (Nat.le_refl _) hlt]
    by_cases c : i + 1 < runE digB (hd T n) i ∧ bt T i = 48
    · rw [if_pos c, if_pos c]
    · rw [if_neg c] at h
      rw [if_neg c, if_neg c]
      generalize runE digB (hd T n) i = e at *
      have eH : numE (hd T n) i false e = if e < n ∧ bt T e = 46 then (if runE digB (hd T n) (e + 1) = e + 1 then (if e + 1 = n ∧ false = false then Lk.opn else .bad 120 i) else endsL (hd T n) i false 6 i (runE digB (hd T n) (e + 1))) else endsL (hd T n) i false 5 i e := by unfold numE; rw [hd_size hn, hd_bt hn hlt]
      rw [eH] at h ⊢
      unfold numE
      by_cases c2 : bt T e = 46
      · rw [if_pos ⟨hlt, c2⟩] at h
        rw [if_pos (show e < T.size ∧ bt T e = 46 from ⟨by omega, c2⟩), if_pos (show e < n ∧ bt T e = 46 from ⟨hlt, c2⟩)]
        have hle2 := hd_run_le hn digB (i := e + 1) (by omega)
        have hge2 := runE_le digB (hd T n) (e + 1)
        rcases Nat.lt_or_ge (runE digB (hd T n) (e + 1)) n with hlt2 | hge3
        · rw [hd_run hn digB _ _ (Nat.le_refl _) hlt2]
          by_cases c3 : runE digB (hd T n) (e + 1) = e + 1
          · rw [if_pos c3, if_pos c3, if_neg (show ¬ (e + 1 = T.size ∧ b = false) from fun h => by omega), if_neg (show ¬ (e + 1 = n ∧ false = false) from fun h => by omega)]
          · rw [if_neg c3, if_neg c3]
            exact hd_ends hn hlt2
        · refine absurd ?_ h
          by_cases c3 : runE digB (hd T n) (e + 1) = e + 1
          · rw [if_pos c3, if_pos ⟨by omega, rfl⟩]
          · rw [if_neg c3, ends_opn (by rw [hd_size hn]; omega)]
      · rw [if_neg (fun h => c2 h.2), if_neg (fun h => c2 h.2)]
        exact hd_ends hn hlt
  · have hgT := hd_run_ge hn digB (i := i) (by omega) (Nat.le_of_lt hi)
    by_cases c : i + 1 < runE digB (hd T n) i ∧ bt T i = 48
    · rw [if_pos c, if_pos ⟨by have := c.1; omega, c.2⟩]
    · rw [if_neg c] at h
      refine absurd ?_ h
      unfold numE
      rw [hd_size hn, if_neg (fun h => by omega), ends_opn (by rw [hd_size hn]; omega)]
theorem hd_bar (hn : n ≤ T.size) : ∀ m j, n - j ≤ m → barE (hd T n) i false j ≠ .opn → barE T i b j = barE (hd T n) i false j := by
  intro m
  induction m with
  | zero =>
    intro j hm h
    rw [barE_end (by rw [hd_size hn]; omega)] at h
    exact absurd rfl h
  | succ m ih =>
    intro j hm h
    by_cases hj : j < n
    · have eH := barE_step (S := hd T n) (i := i) (fin := false) (j := j) (by rw [hd_size hn]; exact hj)
      have eT := barE_step (S := T) (i := i) (fin := b) (j := j) (by omega)
      rw [hd_bt hn hj, hd_ext (by omega)] at eH
      rw [eH] at h ⊢
      rw [eT]
      by_cases c1 : bt T j = 124
      · rw [if_pos c1, if_pos c1]
      · rw [if_neg c1] at h
        rw [if_neg c1, if_neg c1]
        by_cases c2 : quoB (bt T j) = false ∨ bt T j = 92
        · rw [if_pos c2, if_pos c2]
        · rw [if_neg c2] at h
          rw [if_neg c2, if_neg c2]
          exact ih (j + 1) (by omega) h
    · rw [barE_end (by rw [hd_size hn]; exact hj)] at h
      exact absurd rfl h
theorem hd_text (hn : n ≤ T.size) : ∀ m j, n - j ≤ m → textE (hd T n) i false j ≠ .opn → textE T i b j = textE (hd T n) i false j := by
  intro m
  induction m with
  | zero =>
    intro j hm h
    rw [textE_end (by rw [hd_size hn]; omega)] at h
    exact absurd rfl h
  | succ m ih =>
    intro j hm h
    by_cases hj : j < n
    · by_cases hq : bt T j = 34
      · have eH := textE_quote (S := hd T n) (i := i) (fin := false) (j := j) (by rw [hd_size hn]; exact hj) (by rw [hd_bt hn hj]; exact hq)
        have eT := textE_quote (S := T) (i := i) (fin := b) (j := j) (by omega) hq
        rw [hd_size hn, hd_txt (by omega)] at eH
        rw [eH] at h ⊢
        rw [eT]
        by_cases c1 : j + 1 < n
        · rw [hd_bt hn c1] at h ⊢
          by_cases c2 : bt T (j + 1) = 34
          · rw [if_pos ⟨c1, c2⟩] at h
            rw [if_pos ⟨by omega, c2⟩, if_pos ⟨c1, c2⟩]
            exact ih (j + 2) (by omega) h
          · rw [if_neg (show ¬ (j + 1 < T.size ∧ bt T (j + 1) = 34) from fun h => c2 h.2), if_neg (show ¬ (j + 1 < n ∧ bt T (j + 1) = 34) from fun h => c2 h.2), if_neg (show ¬ (j + 1 = T.size ∧ b = false) from fun h => by omega), if_neg (show ¬ (j + 1 = n ∧ false = false) from fun h => by omega)]
        · rw [if_neg (fun h => c1 h.1), if_pos ⟨by omega, rfl⟩] at h
          exact absurd rfl h
      · have eH := textE_step (S := hd T n) (i := i) (fin := false) (j := j) (by rw [hd_size hn]; exact hj) (by rw [hd_bt hn hj]; exact hq)
        have eT := textE_step (S := T) (i := i) (fin := b) (j := j) (by omega) hq
        rw [hd_bt hn hj] at eH
        rw [eH] at h ⊢
        rw [eT]
        by_cases c1 : quoB (bt T j) = false
        · rw [if_pos c1, if_pos c1]
        · rw [if_neg c1] at h
          rw [if_neg c1, if_neg c1]
          exact ih (j + 1) (by omega) h
    · rw [textE_end (by rw [hd_size hn]; exact hj)] at h
      exact absurd rfl h
/-- What is told of a head is so, whatever follows. -/
theorem hd_lk (hn : n ≤ T.size) (hi : i < n) (h : lk (hd T n) i false ≠ .opn) : lk T i b = lk (hd T n) i false := by
  unfold lk at h ⊢
  rw [hd_bt hn hi] at h ⊢
  by_cases c1 : bt T i = 40
  · rw [if_pos c1, if_pos c1]
  rw [if_neg c1] at h; rw [if_neg c1, if_neg c1]
  by_cases c2 : bt T i = 41
  · rw [if_pos c2, if_pos c2]
  rw [if_neg c2] at h; rw [if_neg c2, if_neg c2]
  by_cases c3 : bt T i = 124
  · rw [if_pos c3] at h; rw [if_pos c3, if_pos c3]
    exact hd_bar hn _ _ (Nat.le_refl _) h
  rw [if_neg c3] at h; rw [if_neg c3, if_neg c3]
  by_cases c4 : bt T i = 34
  · rw [if_pos c4] at h; rw [if_pos c4, if_pos c4]
    exact hd_text hn _ _ (Nat.le_refl _) h
  rw [if_neg c4] at h; rw [if_neg c4, if_neg c4]
  by_cases c5 : bt T i = 35
  · rw [if_pos c5] at h; rw [if_pos c5, if_pos c5]
    unfold sharpL at h ⊢
    rw [hd_size hn] at h ⊢
    by_cases d1 : i + 1 = n
    · rw [if_pos d1, if_neg (by decide)] at h
      exact absurd rfl h
    · rw [hd_bt hn (show i + 1 < n by omega), if_neg d1] at h
      rw [hd_bt hn (show i + 1 < n by omega), if_neg d1, if_neg (show ¬ i + 1 = T.size by omega)]
      by_cases d2 : bt T (i + 1) = 120
      · rw [if_pos d2] at h; rw [if_pos d2, if_pos d2]
        exact hd_sharpE hn (by omega) h
      rw [if_neg d2] at h; rw [if_neg d2, if_neg d2]
      by_cases d3 : bt T (i + 1) = 98
      · rw [if_pos d3] at h; rw [if_pos d3, if_pos d3]
        exact hd_sharpE hn (by omega) h
      · rw [if_neg d3, if_neg d3]
  rw [if_neg c5] at h; rw [if_neg c5, if_neg c5]
  by_cases c6 : bt T i = 58
  · rw [if_pos c6] at h; rw [if_pos c6, if_pos c6]
    exact hd_word hn (by omega) h
  rw [if_neg c6] at h; rw [if_neg c6, if_neg c6]
  by_cases c7 : digB (bt T i) = true
  · rw [if_pos c7] at h; rw [if_pos c7, if_pos c7]
    exact hd_num hn hi h
  rw [if_neg c7] at h; rw [if_neg c7, if_neg c7]
  by_cases c8 : sgB (bt T i) = true
  · rw [if_pos c8] at h; rw [if_pos c8, if_pos c8]
    exact hd_word hn (Nat.le_of_lt hi) h
  · rw [if_neg c8, if_neg c8]

theorem hd_gap (hn : n ≤ T.size) {c : Bool} {i : Nat} (hi : i ≤ n) : gapS T c i = if (gapS (hd T n) c i).1 < n then gapS (hd T n) c i else gapS T (gapS (hd T n) c i).2 n := by
  have := gapS_ind (S := hd T n) (P := fun c i r => i ≤ n → gapS T c i = if r.1 < n then r else gapS T r.2 n) (fun c i h hi => by
    rw [hd_size hn] at h
    rw [if_neg (by simpa using h)]
    obtain rfl : i = n := by omega
    rfl) (fun i r h hb ih hi => by
    rw [hd_size hn] at h
    rw [hd_bt hn h] at hb
    rw [gapS_line (by omega) hb]
    exact ih hi) (fun i r h hb ih hi => by
    rw [hd_size hn] at h
    rw [hd_bt hn h] at hb
    rw [gapS_in (by omega) hb]
    exact ih (by omega)) (fun i r h hb ih hi => by
    rw [hd_size hn] at h
    rw [hd_bt hn h] at hb
    rw [gapS_semi (by omega) hb]
    exact ih (by omega)) (fun i r h h0 hb ih hi => by
    rw [hd_size hn] at h
    rw [hd_bt hn h] at hb h0
    rw [gapS_blank (by omega) h0 hb]
    exact ih (by omega)) (fun i h h0 hb hi => by
    rw [hd_size hn] at h
    rw [hd_bt hn h] at hb h0
    rw [gapS_stop (by omega) h0 hb, if_pos h]) _ c i (Nat.le_refl _)
  exact this hi

/-- The tokens of a text that goes on. -/
theorem hd_tel (hn : n ≤ T.size) {l : List TK} {j : Nat} {c : Bool} : j ≤ n → (j < n → c = false ∧ gapS T false j = (j, false)) → ∀ c0 i0, gapS T c0 i0 = (if j < n then (j, c) else gapS T c n) →
    (∀ cd a f l', telP (hd T n) false l j c = (l', .err cd a f) → telR T b l c0 i0 = (l', .err cd a f)) ∧ (∀ j' c' l', telP (hd T n) false l j c = (l', .ok j' c') → j' ≤ n ∧ telR T b l c0 i0 = telR T b l' c' j') := by
  refine telP_ind (S := hd T n) (fin := false) (P := fun l j c r => j ≤ n → (j < n → c = false ∧ gapS T false j = (j, false)) → ∀ c0 i0, gapS T c0 i0 = (if j < n then (j, c) else gapS T c n) →
    (∀ cd a f l', r = (l', .err cd a f) → telR T b l c0 i0 = (l', .err cd a f)) ∧ (∀ j' c' l', r = (l', .ok j' c') → j' ≤ n ∧ telR T b l c0 i0 = telR T b l' c' j')) (fun l j c h hj hc c0 i0 hg => ?_) (fun l j c h _ hlk hj hc c0 i0 hg => ?_) (fun l j c cd a h hlk h1 h2 h3 hj hc c0 i0 hg => ?_) (fun l j c k t e r h hlk he h3 ht ih hj hc c0 i0 hg => ?_) _ l j c (Nat.le_refl _)
  · rw [hd_size hn] at h
    refine ⟨fun cd a f l' e => by simp at e, fun j' c' l' e => ?_⟩
    simp only [Prod.mk.injEq, Fi.ok.injEq] at e
    obtain ⟨rfl, rfl, rfl⟩ := e
    obtain rfl : j = n := by omega
    rw [if_neg h] at hg
    exact ⟨hj, by unfold telR; rw [hg]⟩
  · rw [hd_size hn] at h
    refine ⟨fun cd a f l' e => by simp at e, fun j' c' l' e => ?_⟩
    simp only [Prod.mk.injEq, Fi.ok.injEq] at e
    obtain ⟨rfl, rfl, rfl⟩ := e
    obtain ⟨hcf, hgj⟩ := hc h
    subst hcf
    rw [if_pos h] at hg
    exact ⟨hj, by unfold telR; rw [hg, hgj]⟩
  · rw [hd_size hn] at h
    refine ⟨fun cd' a' f l' e => ?_, fun j' c' l' e => by simp at e⟩
    simp only [Prod.mk.injEq, Fi.err.injEq] at e
    obtain ⟨rfl, rfl, rfl, rfl⟩ := e
    rw [if_pos h] at hg
    unfold telR
    rw [hg]
    exact telP_bad (by omega) (by rw [hd_lk hn h (by rw [hlk]; simp), hlk])
  · rw [hd_size hn] at h h3
    rw [if_pos h] at hg
    have hlk' : lk T j b = .whl k t e := by rw [hd_lk hn h (by rw [hlk]; simp), hlk]
    have htok : tok (hd T n) k t j e = tok T k t j e := by unfold tok; rw [hd_lc hn (Nat.le_of_lt h)]
    have hge := gapS_ge (hd T n) false e
    rw [hd_size hn] at hge
    have hgap := hd_gap hn (c := false) h3
    have hstep : telR T b l c0 i0 = telR T b (l ++ [tok T k t j e]) false e := by
      unfold telR
      rw [hg]
      exact telP_whl (by omega) hlk' he
    rw [hstep]
    rw [htok] at ih
    refine ih (hge.2 h3) (fun hlt => ?_) false e hgap
    have hat := gapS_at (hd T n) false e (by rw [hd_size hn]; exact hlt)
    rw [hd_bt hn hlt] at hat
    exact ⟨hat.1, gapS_stop (by omega) hat.2.1 hat.2.2⟩

theorem hd_telR (hn : n ≤ T.size) {l : List TK} {c : Bool} {i : Nat} (hi : i ≤ n) :
    (∀ cd a f l', telR (hd T n) false l c i = (l', .err cd a f) → telR T b l c i = (l', .err cd a f)) ∧ (∀ j' c' l', telR (hd T n) false l c i = (l', .ok j' c') → j' ≤ n ∧ telR T b l c i = telR T b l' c' j') := by
  have hge := gapS_ge (hd T n) c i
  rw [hd_size hn] at hge
  refine hd_tel hn (l := l) (hge.2 hi) (fun hlt => ?_) c i ?_
  · have hat := gapS_at (hd T n) c i (by rw [hd_size hn]; exact hlt)
    rw [hd_bt hn hlt] at hat
    exact ⟨hat.1, gapS_stop (by omega) hat.2.1 hat.2.2⟩
  · exact hd_gap hn hi
end

end Go.FK


/- Tokens: New, Feed, End, At, All; TokensReads. -/
namespace Go.FK

variable {S : ByteArray}

/-! ### A piece more -/
theorem app_hd (S P : ByteArray) : hd (S ++ P) S.size = S := by
  exact ByteArray.extract_append_eq_left rfl
theorem app_rst (S P : ByteArray) {i : Nat} (hi : i ≤ S.size) : rst S i ++ P = rst (S ++ P) i := by
  have h1 : rst (S ++ P) i = (S ++ P).extract i S.size ++ (S ++ P).extract S.size (S ++ P).size := by
    rw [ByteArray.extract_append_extract, Nat.min_eq_left hi, Nat.max_eq_right (by rw [ByteArray.size_append]; omega)]
    rfl
  have h2 : (S ++ P).extract i S.size = rst S i := by
    rw [← hd_ext (T := S ++ P) (n := S.size) (Nat.le_refl _), app_hd]
    rfl
  have h3 : (S ++ P).extract S.size (S ++ P).size = P := by
    exact ByteArray.extract_append_eq_right rfl (by rw [ByteArray.size_append])
  rw [h1, h2, h3]
theorem app_plc (S P : ByteArray) {i : Nat} (hi : i ≤ S.size) : plc S i = plc (S ++ P) i := by
  have := hd_lc (T := S ++ P) (n := S.size) (by rw [ByteArray.size_append]; omega) hi
  rw [app_hd] at this
  unfold plc
  rw [this]

/-! ### The program's functions -/
def emp : ByteArray := ByteArray.mk #[]
theorem emp_scn : scn emp 1 0 false 0 = ((1 : Int), ByteArray.mk #[], false, ((0 : Int), ByteArray.mk #[], (0 : Int), (0 : Int), (1 : Int), (1 : Int)), (0 : Int)) := by
  unfold scn
  rw [rst_zero]
  rfl
theorem new_ev : Ev (fun k => tokens_New.f k ()) [scn emp 1 0 false 0] := by
  rw [emp_scn]
  exact ⟨0, fun k _ => rfl⟩
theorem emp_app (S : ByteArray) : emp ++ S = S := by
  apply bytes_inj'
  rw [ByteArray.data_append, Array.toList_append]
  rfl

theorem ans_open {s : SC} (h : s.1 = 1) : Ev (fun k => tokens_Scanner_answers.f k s) (s, (0 : Int), false) := by
  unfold tokens_Scanner_answers.f tokens_Scanner_answers.e
  rw [h]
  exact Ev.fls rfl (Ev.fls rfl (Ev.fls rfl Ev.pure))
theorem ans_broken {s : SC} (h : s.1 = 3) : Ev (fun k => tokens_Scanner_answers.f k s) (s, s.2.2.2.2, true) := by
  unfold tokens_Scanner_answers.f tokens_Scanner_answers.e
  rw [h]
  exact Ev.fls rfl (Ev.fls rfl (Ev.tru rfl Ev.pure))

theorem feed_ev {S P : ByteArray} (hS : (S ++ P).size ≤ 4294967280) {i : Nat} (hi : i ≤ S.size) (c : Bool) : Ev (fun k => tokens_Scanner_Feed.f k (scn S 1 i c 0) P) (encS (S ++ P) (telR (S ++ P) false [] c i)) := by
  have hle : i ≤ (S ++ P).size := by rw [ByteArray.size_append]; omega
  have := tell_ev (fin := false) hS hle c
  unfold tokens_Scanner_Feed.f tokens_Scanner_Feed.e
  refine Ev.bind (ans_open rfl) (Ev.fls rfl (Ev.fls ?_ ?_))
  · have h1 : (rst S i).size + P.size ≤ (S ++ P).size := by rw [rst_size, ByteArray.size_append]; omega
    refine dec_f ?_
    show ¬ ((((rst S i).size + P.size : Nat) : Int) > 9223372036854775807)
    omega
  · have e : ((scn S 1 i c 0).1, (scn S 1 i c 0).2.1 ++ P, (scn S 1 i c 0).2.2.1, (scn S 1 i c 0).2.2.2.1, (scn S 1 i c 0).2.2.2.2) = scn (S ++ P) 1 i c 0 := by
      unfold scn
      simp only
      rw [app_rst S P hi, app_plc S P hi]
    show Ev (fun k => Option.bind (tokens_Scanner_tell.f k ((scn S 1 i c 0).1, (scn S 1 i c 0).2.1 ++ P, (scn S 1 i c 0).2.2.1, (scn S 1 i c 0).2.2.2.1, (scn S 1 i c 0).2.2.2.2) false) fun r2 => some (r2.1, r2.2.1, r2.2.2)) _
    rw [e]
    exact Ev.bind this Ev.pure
def encE (S : ByteArray) : List TK × Fi → SC × List TK × Int
  | (l, .ok j c) => (scn S 2 j c 0, l, 0)
  | (l, .err cd a c) => (scn S 3 a c cd, l, cd)
theorem end_ev (hS : S.size ≤ 4294967280) {i : Nat} (hi : i ≤ S.size) (c : Bool) : Ev (fun k => tokens_Scanner_End.f k (scn S 1 i c 0)) (encE S (telR S true [] c i)) := by
  have := tell_ev (fin := true) hS hi c
  have hf : FiOk S _ (telR S true [] c i).2 := telP_fi ((gapS_ge S c i).2 hi)
  unfold tokens_Scanner_End.f tokens_Scanner_End.e
  refine Ev.bind (ans_open rfl) (Ev.fls rfl (Ev.bind this ?_))
  generalize telR S true [] c i = r at *
  obtain ⟨l, f⟩ := r
  cases f with
  | ok j c' => exact Ev.tru rfl (Ev.turn (fun k => tokens_Scanner_End.p15_succ k _ _ _) Ev.pure)
  | err cd a c' =>
    have h0 : cd ≠ 0 := by
      have := hf.2.2
      omega
    exact Ev.fls (dec_f h0) (Ev.turn (fun k => tokens_Scanner_End.p15_succ k _ _ _) Ev.pure)
theorem end_shut {s : SC} {er : Int} (h : Ev (fun k => tokens_Scanner_answers.f k s) (s, er, true)) : Ev (fun k => tokens_Scanner_End.f k s) (s, [], er) := by
  unfold tokens_Scanner_End.f tokens_Scanner_End.e
  exact Ev.bind h (Ev.tru rfl Ev.pure)
theorem at_ev {s : SC} (h : s.1 ≠ 0) : Ev (fun k => tokens_Scanner_At.f k s) (s, s.2.2.2.1) := by
  unfold tokens_Scanner_At.f tokens_Scanner_At.e
  exact Ev.fls (dec_f h) Ev.pure

/-! ### All -/
def zTK : TK := ((0 : Int), ByteArray.mk #[], (0 : Int), (0 : Int), (0 : Int), (0 : Int))
def encA (S : ByteArray) : List TK × Fi → List TK × Int × TK
  | (l, .ok _ _) => (l, 0, zTK)
  | (l, .err cd a _) => (l, cd, plc S a)

theorem hd_self (S : ByteArray) : hd S S.size = S := by
  exact ByteArray.extract_zero_size

theorem all_ev (hS : S.size ≤ 4294967280) : Ev (fun k => tokens_All.f k S) (encA S (telR S true [] false 0)) := by
  have h15 : ∀ (s : SC) (l : List TK) (e : Int), s.1 ≠ 0 → Ev (fun k => tokens_All.p15 k ((0 : Int), ByteArray.mk #[], (0 : Int), (0 : Int), (0 : Int), (0 : Int)) s l e) (if e = 0 then (l, 0, zTK) else (l, e, s.2.2.2.1)) := by
    intro s l e hs
    refine Ev.turn (fun k => tokens_All.p15_succ k _ _ _ _) ?_
    unfold tokens_All.e15
    by_cases h : e = 0
    · rw [if_pos h]
      exact Ev.fls (by rw [dec_t h]; rfl) Ev.pure
    · rw [if_neg h]
      exact Ev.tru (by rw [dec_f h]; rfl) (Ev.bind (at_ev hs) Ev.pure)
  have hfeed := feed_ev (S := emp) (P := S) (by rw [emp_app]; exact hS) (i := 0) (Nat.zero_le _) false
  rw [emp_app] at hfeed
  have hm := hd_telR (T := S) (n := S.size) (b := true) (Nat.le_refl _) (l := []) (c := false) (i := 0) (Nat.zero_le _)
  rw [hd_self] at hm
  have hf : FiOk S _ (telR S false [] false 0).2 := telP_fi ((gapS_ge S false 0).2 (Nat.zero_le _))
  have hlen : (telR S false [] false 0).1.length ≤ S.size := telP_len (by simp) ((gapS_ge S false 0).2 (Nat.zero_le _))
  unfold tokens_All.f tokens_All.e
  refine Ev.bind new_ev ?_
  show Ev (fun k => Option.bind (tokens_Scanner_Feed.f k (scn emp 1 0 false 0) S) _) _
  refine Ev.bind hfeed ?_
  generalize hr : telR S false [] false 0 = r at *
  obtain ⟨l, f⟩ := r
  cases f with
  | err cd a c =>
    have h0 : cd ≠ 0 := by
      have := hf.2.2
      omega
    rw [hm.1 cd a c l rfl]
    have := h15 (scn S 3 a c cd) l cd (by show (3 : Int) ≠ 0; decide)
    rw [if_neg h0] at this
    exact Ev.fls (dec_f h0) this
  | ok j c =>
    obtain ⟨hj, hm2⟩ := hm.2 j c l rfl
    have hend := end_ev hS hj c
    have hf2 : FiOk S _ (telR S true [] c j).2 := telP_fi ((gapS_ge S c j).2 hj)
    have happ : telR S true l c j = (l ++ (telR S true [] c j).1, (telR S true [] c j).2) := by
      have := telP_app (S := S) (fin := true) (l := []) (j := (gapS S c j).1) (c := (gapS S c j).2) l
      rw [List.append_nil] at this
      exact this
    have hlen2 : (telR S true [] c j).1.length ≤ S.size := telP_len (by simp) ((gapS_ge S c j).2 hj)
    rw [hm2, happ]
    refine Ev.tru rfl (Ev.bind hend ?_)
    generalize telR S true [] c j = r2 at *
    obtain ⟨l2, f2⟩ := r2
    cases f2 with
    | ok j2 c2 =>
      have := h15 (scn S 2 j2 c2 0) (l ++ l2) 0 (by show (2 : Int) ≠ 0; decide)
      rw [if_pos rfl] at this
      refine Ev.tru ?_ this
      have h1 : l.length + l2.length ≤ 8589934560 := by simp only at hlen hlen2; omega
      have h2 : (l.length + l2.length) * 56 ≤ 8589934560 * 56 := Nat.mul_le_mul_right _ h1
      simp only [encS, encE, Bool.and_eq_true, Nat.ble_eq]
      omega
    | err cd a c2 =>
      have h0 : cd ≠ 0 := by
        have := hf2.2.2
        omega
      have := h15 (scn S 3 a c2 cd) (l ++ l2) cd (by show (3 : Int) ≠ 0; decide)
      rw [if_neg h0] at this
      refine Ev.tru ?_ this
      have h1 : l.length + l2.length ≤ 8589934560 := by simp only at hlen hlen2; omega
      have h2 : (l.length + l2.length) * 56 ≤ 8589934560 * 56 := Nat.mul_le_mul_right _ h1
      simp only [encS, encE, Bool.and_eq_true, Nat.ble_eq]
      omega

/-! ### The same tokens -/
theorem tok_beq (t : TK) : (decide (t.1 = t.1) && ((t.2.1.toList == t.2.1.toList) && (decide (t.2.2.1 = t.2.2.1) && (decide (t.2.2.2.1 = t.2.2.2.1) && (decide (t.2.2.2.2.1 = t.2.2.2.2.1) && decide (t.2.2.2.2.2 = t.2.2.2.2.2)))))) = true := by
  rw [toList_beq]
  simp
theorem same_loop {l : List TK} (hl : l.length ≤ 8589934592) : ∀ m i, m + i = l.length → Ev (fun k => law12_same.p0 k l l (i : Int)) true := by
  intro m
  induction m with
  | zero =>
    intro i hi
    refine Ev.turn (fun k => law12_same.p0_succ k _ _ _) ?_
    unfold law12_same.e0
    exact Ev.fls (dec_f (by omega)) Ev.pure
  | succ m ih =>
    intro i hi
    refine Ev.turn (fun k => law12_same.p0_succ k _ _ _) ?_
    unfold law12_same.e0
    have e : IntKind.i64.wrap ((i : Int) + 1) = ((i + 1 : Nat) : Int) := by rw [wr (by omega) (by omega)]; omega
    rw [e]
    refine Ev.tru (dec_t (by omega)) (Ev.tru (by simp; omega) (Ev.tru (by simp; omega) (Ev.fls ?_ (ih (i + 1) (by omega)))))
    rw [tok_beq]
    rfl
theorem same_ev {l : List TK} (hl : l.length ≤ 8589934592) : Ev (fun k => law12_same.f k l l) true := by
  unfold law12_same.f law12_same.e
  exact Ev.fls (by simp) (same_loop hl l.length 0 (by omega))

end Go.FK


/- Tokens: a text in pieces (TokensPieces). -/
namespace Go.FK

variable {S : ByteArray}
theorem telR_split {S : ByteArray} {fin : Bool} {l : List TK} {c : Bool} {j : Nat} : telR S fin l c j = (l ++ (telR S fin [] c j).1, (telR S fin [] c j).2) := by
  have := telP_app (S := S) (fin := fin) (l := []) (j := (gapS S c j).1) (c := (gapS S c j).2) l
  rw [List.append_nil] at this
  exact this
theorem telR_fi {S : ByteArray} {fin : Bool} {l : List TK} {c : Bool} {i : Nat} (hi : i ≤ S.size) : FiOk S 0 (telR S fin l c i).2 := (telP_fi ((gapS_ge S c i).2 hi)).mono (Nat.zero_le _)
theorem telR_len {S : ByteArray} {fin : Bool} {c : Bool} {i : Nat} (hi : i ≤ S.size) : (telR S fin [] c i).1.length ≤ S.size := telP_len (by simp) ((gapS_ge S c i).2 hi)

theorem tel_end {T : ByteArray} {l : List TK} {j : Nat} {c : Bool} (h : telR T false [] false 0 = (l, .ok j c)) : telR T true [] false 0 = (l ++ (telR T true [] c j).1, (telR T true [] c j).2) := by
  have := ((hd_telR (T := T) (n := T.size) (b := true) (Nat.le_refl _) (l := []) (c := false) (i := 0) (Nat.zero_le _)).2 j c l (by rw [hd_self]; exact h)).2
  rw [telR_split (l := l)] at this
  exact this
/-- The place that the reference names. -/
def finA : Fi → Nat
  | .ok j _ => j
  | .err _ a _ => a
def finE : Fi → Int
  | .ok _ _ => 0
  | .err cd _ _ => cd
theorem encR_eq (r : List TK × Fi) : encR r = (r.1, finE r.2, (finA r.2 : Int)) := by
  obtain ⟨l, f⟩ := r
  cases f <;> rfl
theorem finE_err {S : ByteArray} {i : Nat} {cd : Int} {a : Nat} {c : Bool} (h : FiOk S i (.err cd a c)) : cd ≠ 0 := by
  have := h.2.2
  omega
theorem encS_eq (S : ByteArray) (r : List TK × Fi) : (encS S r).2.1 = r.1 ∧ (encS S r).2.2 = finE r.2 ∧ (encS S r).1.2.2.2.1 = plc S (finA r.2) ∧ (encS S r).1.1 ≠ 0 := by
  obtain ⟨l, f⟩ := r
  cases f with
  | ok j c => exact ⟨rfl, rfl, rfl, by show (1 : Int) ≠ 0; decide⟩
  | err cd a c => exact ⟨rfl, rfl, rfl, by show (3 : Int) ≠ 0; decide⟩
theorem encE_eq (S : ByteArray) (r : List TK × Fi) : (encE S r).2.1 = r.1 ∧ (encE S r).2.2 = finE r.2 ∧ (encE S r).1.2.2.2.1 = plc S (finA r.2) ∧ (encE S r).1.1 ≠ 0 := by
  obtain ⟨l, f⟩ := r
  cases f with
  | ok j c => exact ⟨rfl, rfl, rfl, by show (2 : Int) ≠ 0; decide⟩
  | err cd a c => exact ⟨rfl, rfl, rfl, by show (3 : Int) ≠ 0; decide⟩

theorem take_all {l m : List TK} : (((l ++ m).take (((l ++ m).length : Int)).toNat).drop ((l.length : Int)).toNat) = m := by
  rw [Int.toNat_natCast, Int.toNat_natCast, List.take_length, List.drop_left]

section
variable {ps : List ByteArray}
end

end Go.FK


/- Tokens: a text that is cut (TokensCuts). -/
namespace Go.FK

/-! ### Three tokens -/
def xS : ByteArray := ByteArray.mk #[40, 120, 41]
theorem x_b0 : bt xS 0 = 40 := by decide +kernel
theorem x_b1 : bt xS 1 = 120 := by decide +kernel
theorem x_b2 : bt xS 2 = 41 := by decide +kernel
theorem x_tel : ∃ a b c, telR xS true [] false 0 = ([a, b, c], .ok 3 false) ∧ b.2.1 = ByteArray.mk #[120] := by
  have hs : xS.size = 3 := rfl
  have g0 : gapS xS false 0 = (0, false) := gapS_stop (by rw [hs]; decide) (by rw [x_b0]; decide) (by rw [x_b0]; decide)
  have g1 : gapS xS false 1 = (1, false) := gapS_stop (by rw [hs]; decide) (by rw [x_b1]; decide) (by rw [x_b1]; decide)
  have g2 : gapS xS false 2 = (2, false) := gapS_stop (by rw [hs]; decide) (by rw [x_b2]; decide) (by rw [x_b2]; decide)
  have g3 : gapS xS false 3 = (3, false) := gapS_end (by rw [hs]; decide)
  have l0 : lk xS 0 true = .whl 1 (ByteArray.mk #[40]) 1 := by unfold lk; rw [if_pos x_b0]
  have l2 : lk xS 2 true = .whl 2 (ByteArray.mk #[41]) 3 := by unfold lk; rw [if_neg (by rw [x_b2]; decide), if_pos x_b2]
  have hr : runE sgB xS 1 = 2 := by
    rw [runE_yes (by rw [hs]; decide) (by rw [x_b1]; decide), runE_no (by rw [hs]; decide) (by rw [x_b2]; decide)]
  have l1 : lk xS 1 true = .whl 3 (xS.extract 1 2) 2 := by
    unfold lk
    rw [x_b1, if_neg (by decide), if_neg (by decide), if_neg (by decide), if_neg (by decide), if_neg (by decide), if_neg (by decide), if_neg (by decide), if_pos (by decide)]
    unfold wordL wordE
    rw [hr, x_b1, if_neg (by decide), if_neg (by decide), if_neg (by decide)]
  refine ⟨tok xS 1 (ByteArray.mk #[40]) 0 1, tok xS 3 (xS.extract 1 2) 1 2, tok xS 2 (ByteArray.mk #[41]) 2 3, ?_, ?_⟩
  · unfold telR
    rw [g0, telP_whl (by rw [hs]; decide) l0 (by decide), g1, telP_whl (by rw [hs]; decide) l1 (by decide), g2, telP_whl (by rw [hs]; decide) l2 (by decide), g3, telP_end (by rw [hs]; decide)]
    rfl
  · show xS.extract 1 2 = _
    decide +kernel
theorem awake_ev : Ev (fun k => law12_awake.f k ()) true := by
  obtain ⟨a, b, c, h, hb⟩ := x_tel
  have := all_ev (S := xS) (by decide)
  rw [h] at this
  unfold law12_awake.f law12_awake.e
  refine Ev.bind this (Ev.tru rfl (Ev.tru rfl (Ev.tru rfl (Ev.eq ?_))))
  show (b.2.1.toList == (ByteArray.mk #[120]).toList) = true
  rw [hb]
  exact toList_beq _

/-! ### Cuts -/
variable {S : ByteArray}
section
variable {cs : List Int} {want : List TK} {code : Int}

end

end Go.FK


/- Tokens: TokensApart. -/
namespace Go.FK

abbrev zT : TK := ((0 : Int), ByteArray.mk #[], (0 : Int), (0 : Int), (0 : Int), (0 : Int))
section
variable {A B : ByteArray} {s : SC} {e h : Int} {m L : List TK} {g : Int}

theorem apart_47 (hm : m.length ≤ 4294967280) (hL : L.length ≤ 4294967280) {w : List TK} (hw : w.length = L.length + 8) : Ev (fun k => law12_TokensApart.p47 k w m g h L g m h) true := by
  refine Ev.turn (fun k => law12_TokensApart.p47_succ k _ _ _ _ _ _ _ _) ?_
  unfold law12_TokensApart.e47
  have e8 : IntKind.i64.wrap ((L.length : Int) + 8) = ((L.length + 8 : Nat) : Int) := by rw [wr (by omega) (by omega)]; omega
  rw [e8, hw]
  exact Ev.tru (dec_t rfl) (Ev.tru (dec_t rfl) (Ev.bind (same_ev (by omega)) (Ev.tru rfl (Ev.tru (dec_t rfl) (Ev.pass awake_ev)))))

theorem apart_4 (hA : A.size ≤ 4294967280) (hm : m.length ≤ 4294967280) (hr : (telR A false [] false 0).1 = L) (hg : finE (telR A false [] false 0).2 = g) : ∀ q i, q + i = 8 → ∀ w : List TK, w.length = L.length + i →
    Ev (fun k => law12_TokensApart.p4 k (encS A (telR A false [] false 0)).1 w m A g h L g m h (i : Int)) true := by
  have hL : L.length ≤ A.size := by rw [← hr]; exact telR_len (Nat.zero_le _)
  intro q
  induction q with
  | zero =>
    intro i hi w hw
    obtain rfl : i = 8 := by omega
    refine Ev.turn (fun k => law12_TokensApart.p4_succ k _ _ _ _ _ _ _ _ _ _ _) ?_
    unfold law12_TokensApart.e4
    have hrd := read_ev (fin := true) hA
    have hfi := telR_fi (S := A) (fin := false) (l := []) (c := false) (i := 0) (Nat.zero_le _)
    refine Ev.fls (dec_f (by omega)) ?_
    generalize hR : telR A false [] false 0 = R at *
    obtain ⟨l, f⟩ := R
    simp only at hr hg
    subst hr hg
    cases f with
    | ok j c =>
      have hj : j ≤ A.size := hfi.2
      have he := end_ev hA hj c
      have htl := tel_end hR
      rw [htl, encR_eq] at hrd
      obtain ⟨e1, _, _, _⟩ := encE_eq A (telR A true [] c j)
      have hln := telR_len (S := A) (fin := true) (c := c) hj
      refine Ev.bind he (Ev.bind hrd (Ev.tru rfl (Ev.tru (by simp; omega) ?_)))
      simp only [e1, take_all]
      exact Ev.bind (same_ev (by omega)) (Ev.fls rfl (apart_47 hm (by omega) hw))
    | err cd a c =>
      have h0 := finE_err hfi
      have ha : Ev (fun k => tokens_Scanner_answers.f k (scn A 3 a c cd)) (scn A 3 a c cd, cd, true) := ans_broken rfl
      exact Ev.bind (end_shut ha) (Ev.bind hrd (Ev.fls (dec_f h0) (apart_47 hm (by omega) hw)))
  | succ q ih =>
    intro i hi w hw
    refine Ev.turn (fun k => law12_TokensApart.p4_succ k _ _ _ _ _ _ _ _ _ _ _) ?_
    unfold law12_TokensApart.e4
    have e1 : IntKind.i64.wrap ((i : Int) + 1) = ((i + 1 : Nat) : Int) := by rw [wr (by omega) (by omega)]; omega
    rw [e1]
    exact Ev.tru (dec_t (by omega)) (Ev.tru (by simpa using ble_bound (n := w.length + 1) (by omega) 56 (by omega)) (ih (i + 1) (by omega) _ (by simp; omega)))

theorem apart_0 (hA : A.size ≤ 4294967280) (hm : m.length ≤ 4294967280) (hr : (telR A false [] false 0).1 = L) (hg : finE (telR A false [] false 0).2 = g) : ∀ q i, q + i = L.length → ∀ w : List TK, w.length = L.length → (∀ p, i ≤ p → nthD zT w p = nthD zT L p) →
    Ev (fun k => law12_TokensApart.p0 k (encS A (telR A false [] false 0)).1 w m A g h L g m h (i : Int)) true := by
  have hL : L.length ≤ A.size := by rw [← hr]; exact telR_len (Nat.zero_le _)
  intro q
  induction q with
  | zero =>
    intro i hi w hw hn
    refine Ev.turn (fun k => law12_TokensApart.p0_succ k _ _ _ _ _ _ _ _ _ _ _) ?_
    unfold law12_TokensApart.e0
    exact Ev.fls (dec_f (by omega)) (apart_4 hA hm hr hg 8 0 rfl w (by omega))
  | succ q ih =>
    intro i hi w hw hn
    refine Ev.turn (fun k => law12_TokensApart.p0_succ k _ _ _ _ _ _ _ _ _ _ _) ?_
    unfold law12_TokensApart.e0
    have e1 : IntKind.i64.wrap ((i : Int) + 1) = ((i + 1 : Nat) : Int) := by rw [wr (by omega) (by omega)]; omega
    rw [e1, Int.toNat_natCast, hn i (Nat.le_refl _)]
    refine Ev.tru (dec_t (by omega)) (Ev.tru (by simp; omega) (Ev.tru (by simp; omega) (Ev.fls ?_ (Ev.tru (by simp; omega) (ih (i + 1) (by omega) _ (by rw [length_setN]; exact hw) (fun p hp => ?_))))))
    · rw [tok_beq]
      rfl
    · rw [nthD_setN, if_neg (by omega)]
      exact hn p (by omega)
end

theorem apart_ev {A B : ByteArray} (hA : A.size ≤ 4294967280) (hB : B.size ≤ 4294967280) : Ev (fun k => law12_TokensApart.f k A B) true := by
  have hfA := feed_ev (S := emp) (P := A) (by rw [emp_app]; exact hA) (i := 0) (Nat.zero_le _) false
  have hfB := feed_ev (S := emp) (P := B) (by rw [emp_app]; exact hB) (i := 0) (Nat.zero_le _) false
  rw [emp_app] at hfA hfB
  have hrA := read_ev (fin := false) hA
  have hrB := read_ev (fin := false) hB
  rw [encR_eq] at hrA hrB
  obtain ⟨a1, a2, _, _⟩ := encS_eq A (telR A false [] false 0)
  obtain ⟨b1, b2, _, _⟩ := encS_eq B (telR B false [] false 0)
  have hlB : (telR B false [] false 0).1.length ≤ B.size := telR_len (Nat.zero_le _)
  unfold law12_TokensApart.f law12_TokensApart.e
  refine Ev.bind new_ev ?_
  simp only [one]
  refine Ev.bind new_ev ?_
  refine Ev.bind hfA (Ev.bind hfB (Ev.bind hrA (Ev.bind hrB ?_)))
  rw [a1, a2, b1, b2]
  exact Ev.fls (by simp) (apart_0 hA (by omega) rfl rfl _ 0 (Nat.add_zero _) _ rfl (fun _ _ => rfl))

theorem apart_some {s t : ByteArray} (hm : (s.size + 1) + ((t.size + 1) + 0) ≤ 1048576) : ∃ k, law12_TokensApart.f k s t = some true := (apart_ev (A := s) (B := t) (by omega) (by omega)).some
theorem apart_math (x : TD [.str, .str]) (_hw : wfDs (encT [.str, .str] x)) (hm : massDs (encT [.str, .str] x) ≤ 1048576) : ∃ k, law12_TokensApart.f k x.1 x.2 = some true :=
  apart_some (s := x.1) (t := x.2) hm

end Go.FK
