import Derived.Test.YtnjpocbcfkfphaaDoorM2
import Derived.Test.YtnjpocbcfkfphaaDoorF3

/- Tokens: a text's tokens, by the program and by the reference; the same of a text that comes in pieces. -/
namespace Go.FK
inductive Fi where
  | ok (j : Nat) (c : Bool)
  | err (code : Int) (a : Nat) (c : Bool)
def tok (S : ByteArray) (k : Int) (t : ByteArray) (j e : Nat) : TK := (k, t, (j : Int), (e : Int), ((lc S j).1 : Int), ((lc S j).2 : Int))
def telP (S : ByteArray) (fin : Bool) (l : List TK) (j : Nat) (c : Bool) : List TK × Fi :=
  if _h : j < S.size then
    match lk S j fin with
    | .opn => (l, .ok j c)
    | .bad cd a => (l, .err cd a c)
    | .whl k t e => if _h2 : j < e then telP S fin (l ++ [tok S k t j e]) (gapS S false e).1 (gapS S false e).2 else (l, .ok j c)
  else (l, .ok j c)
termination_by S.size - j
decreasing_by
  have := (gapS_ge S false e).1
  omega
def telR (S : ByteArray) (fin : Bool) (l : List TK) (c : Bool) (i : Nat) : List TK × Fi := telP S fin l (gapS S c i).1 (gapS S c i).2
variable {S : ByteArray} {fin : Bool}
theorem telP_end {l : List TK} {j : Nat} {c : Bool} (h : ¬ j < S.size) : telP S fin l j c = (l, .ok j c) := by rw [telP, dif_neg h]
theorem telP_opn {l : List TK} {j : Nat} {c : Bool} (h : j < S.size) (hl : lk S j fin = .opn) : telP S fin l j c = (l, .ok j c) := by rw [telP, dif_pos h]; simp only [hl]
theorem telP_bad {l : List TK} {j : Nat} {c : Bool} {cd : Int} {a : Nat} (h : j < S.size) (hl : lk S j fin = .bad cd a) : telP S fin l j c = (l, .err cd a c) := by rw [telP, dif_pos h]; simp only [hl]
theorem telP_whl {l : List TK} {j : Nat} {c : Bool} {k : Int} {t : ByteArray} {e : Nat} (h : j < S.size) (hl : lk S j fin = .whl k t e) (he : j < e) : telP S fin l j c = telP S fin (l ++ [tok S k t j e]) (gapS S false e).1 (gapS S false e).2 := by
  rw [telP, dif_pos h]
  simp only [hl, dif_pos he]
theorem telP_ind {P : List TK → Nat → Bool → List TK × Fi → Prop} (hend : ∀ l j c, ¬ j < S.size → P l j c (l, .ok j c)) (hopn : ∀ l j c, j < S.size → fin = false → lk S j fin = .opn → P l j c (l, .ok j c))
    (hbad : ∀ l j c cd a, j < S.size → lk S j fin = .bad cd a → j ≤ a → a < S.size → (cd = 120 ∨ cd = 121) → P l j c (l, .err cd a c))
    (hwhl : ∀ l j c k t e r, j < S.size → lk S j fin = .whl k t e → j < e → e ≤ S.size → t.size ≤ S.size → P (l ++ [tok S k t j e]) (gapS S false e).1 (gapS S false e).2 r → P l j c r) : ∀ m l j c, S.size - j ≤ m → P l j c (telP S fin l j c) := by
  intro m
  induction m with
  | zero =>
    intro l j c hm
    rw [telP_end (by omega)]
    exact hend l j c (by omega)
  | succ m ih =>
    intro l j c hm
    by_cases h : j < S.size
    · have hok := ok_lk (S := S) (i := j) (fin := fin) h
      cases hl : lk S j fin with
      | opn =>
        rw [hl] at hok
        rw [telP_opn h hl]
        exact hopn l j c h hok hl
      | bad cd a =>
        rw [hl] at hok
        rw [telP_bad h hl]
        exact hbad l j c cd a h hl hok.1 hok.2.1 hok.2.2
      | whl k t e =>
        rw [hl] at hok
        have := (gapS_ge S false e).1
        have h1 := hok.1
        rw [telP_whl h hl hok.1]
        exact hwhl l j c k t e _ h hl hok.1 hok.2.1 hok.2.2 (ih _ _ _ (by omega))
    · rw [telP_end h]
      exact hend l j c h
theorem telP_len {l : List TK} {j : Nat} {c : Bool} (hl : l.length ≤ j) (hj : j ≤ S.size) : (telP S fin l j c).1.length ≤ S.size :=
  telP_ind (P := fun l j _ r => l.length ≤ j → j ≤ S.size → r.1.length ≤ S.size) (fun _ _ _ _ h1 h2 => by simp only; omega) (fun _ _ _ _ _ _ h1 h2 => by simp only; omega) (fun _ _ _ _ _ _ _ _ _ _ h1 h2 => by simp only; omega)
    (fun l j c k t e r h hl he h3 _ ih h1 h2 => ih (by have := (gapS_ge S false e).1; simp; omega) ((gapS_ge S false e).2 h3)) _ l j c (Nat.le_refl _) hl hj
def FiOk (S : ByteArray) (i : Nat) : Fi → Prop
  | .ok j _ => i ≤ j ∧ j ≤ S.size
  | .err cd a _ => i ≤ a ∧ a < S.size ∧ (cd = 120 ∨ cd = 121)
theorem FiOk.mono {i i' : Nat} (h : i ≤ i') : ∀ {f : Fi}, FiOk S i' f → FiOk S i f
  | .ok _ _, hf => ⟨Nat.le_trans h hf.1, hf.2⟩
  | .err _ _ _, hf => ⟨Nat.le_trans h hf.1, hf.2⟩
theorem telP_fi {l : List TK} {j : Nat} {c : Bool} (hj : j ≤ S.size) : FiOk S j (telP S fin l j c).2 :=
  telP_ind (P := fun _ j _ r => j ≤ S.size → FiOk S j r.2) (fun _ _ _ _ h => ⟨Nat.le_refl _, h⟩) (fun _ _ _ _ _ _ h => ⟨Nat.le_refl _, h⟩) (fun _ _ _ _ _ _ _ h1 h2 h3 _ => ⟨h1, h2, h3⟩)
    (fun l j c k t e r h hl he h3 _ ih h2 => (ih ((gapS_ge S false e).2 h3)).mono (by have := (gapS_ge S false e).1; omega)) _ l j c (Nat.le_refl _) hj
theorem telP_app {l : List TK} {j : Nat} {c : Bool} : ∀ l0, telP S fin (l0 ++ l) j c = (l0 ++ (telP S fin l j c).1, (telP S fin l j c).2) := by
  refine telP_ind (P := fun l j c r => ∀ l0, telP S fin (l0 ++ l) j c = (l0 ++ r.1, r.2)) (fun l j c h l0 => ?_) (fun l j c h _ hl l0 => ?_) (fun l j c cd a h hl _ _ _ l0 => ?_) (fun l j c k t e r h hl he _ _ ih l0 => ?_) _ l j c (Nat.le_refl _)
  · rw [telP_end h]
  · rw [telP_opn h hl]
  · rw [telP_bad h hl]
  · rw [telP_whl h hl he, List.append_assoc, ih l0]
def encS (S : ByteArray) : List TK × Fi → SC × List TK × Int
  | (l, .ok j c) => (scn S 1 j c 0, l, 0)
  | (l, .err cd a c) => (scn S 3 a c cd, l, cd)
theorem clone_ev {t : ByteArray} (h : t.size ≤ 281474976710656) : Ev (fun k => strings_Clone.f k t) t := by
  unfold strings_Clone.f strings_Clone.e
  refine Ev.pass ⟨0, fun k _ => ?_⟩
  unfold stringslite_Clone.f
  rw [dec_t h]
  rfl
theorem tell_loop (hS : S.size ≤ 4294967280) {l : List TK} {j : Nat} {c : Bool} : j ≤ S.size → l.length ≤ j → (j < S.size → c = false) → Ev (fun k => tokens_Scanner_tell.p0 k (scn S 1 j c 0) l fin) (encS S (telP S fin l j c)) := by
  have hne : ∀ {j : Nat} {c : Bool}, j < S.size → (!((scn S 1 j c 0).2.1.toList == (ByteArray.mk #[]).toList)) = true := fun h => by
    rw [show (scn S 1 _ _ 0).2.1 = rst S _ from rfl, empty_beq, rst_size, dec_f (by omega)]
    rfl
  refine telP_ind (P := fun l j c r => j ≤ S.size → l.length ≤ j → (j < S.size → c = false) → Ev (fun k => tokens_Scanner_tell.p0 k (scn S 1 j c 0) l fin) (encS S r)) (fun l j c h hj hl hc => ?_) (fun l j c h hf hlk hj hl hc => ?_) (fun l j c cd a h hlk h1 h2 h3 hj hl hc => ?_) (fun l j c k t e r h hlk he h3 ht ih hj hl hc => ?_) _ l j c (Nat.le_refl _)
  · refine Ev.turn (fun k => tokens_Scanner_tell.p0_succ k _ _ _) ?_
    unfold tokens_Scanner_tell.e0
    rw [show (scn S 1 j c 0).2.1 = rst S j from rfl, empty_beq, rst_size]
    exact Ev.fls (by rw [dec_t (by omega)]; rfl) Ev.pure
  · refine Ev.turn (fun k => tokens_Scanner_tell.p0_succ k _ _ _) ?_
    unfold tokens_Scanner_tell.e0
    obtain ⟨r, hr, hrel⟩ := front_fr (fin := fin) hS h
    rw [hlk] at hrel
    refine Ev.tru (hne h) (Ev.bind hr ?_)
    obtain ⟨hm, _⟩ := hrel
    rw [hm, hf]
    exact Ev.tru rfl (Ev.tru rfl Ev.pure)
  · refine Ev.turn (fun k => tokens_Scanner_tell.p0_succ k _ _ _) ?_
    unfold tokens_Scanner_tell.e0
    obtain ⟨r, hr, hrel⟩ := front_fr (fin := fin) hS h
    rw [hlk] at hrel
    obtain ⟨hc0, hcd, hsz, hm⟩ := hrel
    refine Ev.tru (hne h) (Ev.bind hr ?_)
    have h17 : Ev (fun k => tokens_Scanner_tell.p17 k (scn S 1 j c 0) l r fin) (encS S (l, .err cd a c)) := by
      refine Ev.turn (fun k => tokens_Scanner_tell.p17_succ k _ _ _ _) ?_
      unfold tokens_Scanner_tell.e17
      refine Ev.tru (by rw [hcd, dec_f hc0]; rfl) (Ev.turn (fun k => tokens_Scanner_tell.p19_succ k _ _ _) ?_)
      unfold tokens_Scanner_tell.e19
      have := pass_ev hS (i := j) (n := a - j) (by omega) 1 c 0
      rw [show j + (a - j) = a by omega] at this
      rw [hsz, hcd, show ((a : Int) - (j : Int)) = ((a - j : Nat) : Int) by omega]
      exact Ev.bind this Ev.pure
    cases hmm : r.2.2.2.1 with
    | false => exact Ev.fls rfl h17
    | true =>
      rw [hm hmm] at h17 ⊢
      exact Ev.tru rfl (Ev.fls rfl h17)
  · refine Ev.turn (fun k => tokens_Scanner_tell.p0_succ k _ _ _) ?_
    unfold tokens_Scanner_tell.e0
    obtain ⟨r0, hr, hrel⟩ := front_fr (fin := fin) hS h
    rw [hlk] at hrel
    simp only [RelF] at hrel
    subst hrel
    refine Ev.tru (hne h) (Ev.bind hr (Ev.fls rfl (Ev.turn (fun k => tokens_Scanner_tell.p17_succ k _ _ _ _) ?_)))
    unfold tokens_Scanner_tell.e17
    have hp := pass_ev hS (i := j) (n := e - j) (by omega) 1 c 0
    rw [show j + (e - j) = e by omega] at hp
    have hg := skip_ev hS 1 0 _ false e (Nat.le_refl _) h3
    have hlj := lc_le S j
    have e1 : IntKind.i64.wrap ((scn S 1 j c 0).2.2.2.1.2.2.1 + ((e : Int) - (j : Int))) = (e : Int) := by
      show IntKind.i64.wrap ((j : Int) + ((e : Int) - (j : Int))) = _
      rw [wr (by omega) (by omega)]; omega
    have hcf := hc h
    subst hcf
    dsimp only
    rw [e1, show ((e : Int) - (j : Int)) = ((e - j : Nat) : Int) by omega]
    refine Ev.fls rfl (Ev.fls rfl (Ev.bind (clone_ev (by omega)) (Ev.tru (by simpa using ble_bound (n := l.length + 1) (by omega) 56 (by omega)) (Ev.bind hp (Ev.bind hg ?_)))))
    exact ih ((gapS_ge S false e).2 h3) (by have := (gapS_ge S false e).1; simp; omega) (fun hx => (gapS_at S false e hx).1)
theorem tell_ev (hS : S.size ≤ 4294967280) {i : Nat} (hi : i ≤ S.size) (c : Bool) : Ev (fun k => tokens_Scanner_tell.f k (scn S 1 i c 0) fin) (encS S (telR S fin [] c i)) := by
  unfold tokens_Scanner_tell.f tokens_Scanner_tell.e telR
  exact Ev.bind (skip_ev hS 1 0 _ c i (Nat.le_refl _) hi) (tell_loop hS ((gapS_ge S c i).2 hi) (by simp) (fun hx => (gapS_at S c i hx).1))
def encR : List TK × Fi → List TK × Int × Int
  | (l, .ok j _) => (l, 0, (j : Int))
  | (l, .err cd a _) => (l, cd, (a : Int))
theorem read_lines (hS : S.size ≤ 4294967280) {l : List TK} {x : SE} {j : Nat} (hj : j ≤ S.size) {R : List TK × Int × Int} (hfin : ∀ bg : Int, bg + ((lc S j).2 : Int) = (j : Int) + 1 → Ev (fun k => ref12_Read.p4 k l x S fin ((lc S j).1 : Int) bg (j : Int) (j : Int)) R) :
    ∀ m d, m + d = j → ∀ bg : Int, bg + ((lc S d).2 : Int) = (d : Int) + 1 → Ev (fun k => ref12_Read.p4 k l x S fin ((lc S d).1 : Int) bg (d : Int) (j : Int)) R := by
  intro m
  induction m with
  | zero =>
    intro d hd bg hbg
    obtain rfl : d = j := by omega
    exact hfin bg hbg
  | succ m ih =>
    intro d hd bg hbg
    have hl := lc_le S d
    refine Ev.turn (fun k => ref12_Read.p4_succ k _ _ _ _ _ _ _ _) ?_
    unfold ref12_Read.e4
    have e1 : IntKind.i64.wrap (((d + 1 : Nat) : Int) - 1) = ((d : Nat) : Int) := by rw [wr (by omega) (by omega)]; omega
    rw [w1 (by omega), w1 (by omega), e1, btI_bt S (by omega)]
    refine Ev.tru (dec_t (by omega)) (Ev.tru (by simp; omega) ?_)
    by_cases c : bt S d = 10
    · have := ih (d + 1) (by omega) ((d + 1 : Nat) : Int) (by rw [lc_line c]; simp only; omega)
      rw [lc_line c] at this
      exact Ev.tru (dec_t c) this
    · have := ih (d + 1) (by omega) bg (by rw [lc_in c]; simp only; omega)
      rw [lc_in c] at this
      exact Ev.fls (dec_f c) this
theorem read_loop (hS : S.size ≤ 4294967280) {l : List TK} {j : Nat} {c : Bool} : j ≤ S.size → l.length ≤ j → ∀ d, d ≤ j → ∀ bg : Int, bg + ((lc S d).2 : Int) = (d : Int) + 1 → Ev (fun k => ref12_Read.p0 k l S fin ((lc S d).1 : Int) bg (d : Int) (j : Int)) (encR (telP S fin l j c)) := by
  refine telP_ind (P := fun l j c r => j ≤ S.size → l.length ≤ j → ∀ d, d ≤ j → ∀ bg : Int, bg + ((lc S d).2 : Int) = (d : Int) + 1 → Ev (fun k => ref12_Read.p0 k l S fin ((lc S d).1 : Int) bg (d : Int) (j : Int)) (encR r)) (fun l j c h hj hl d hd bg hbg => ?_) (fun l j c h hf hlk hj hl d hd bg hbg => ?_) (fun l j c cd a h hlk h1 h2 h3 hj hl d hd bg hbg => ?_) (fun l j c k t e r h hlk he h3 ht ih hj hl d hd bg hbg => ?_) _ l j c (Nat.le_refl _)
  · refine Ev.turn (fun k => ref12_Read.p0_succ k _ _ _ _ _ _ _) ?_
    unfold ref12_Read.e0
    exact Ev.fls (dec_f (by omega)) Ev.pure
  · refine Ev.turn (fun k => ref12_Read.p0_succ k _ _ _ _ _ _ _) ?_
    unfold ref12_Read.e0
    have := look_ev (fin := fin) hS h
    rw [hlk] at this
    exact Ev.tru (dec_t (by omega)) (Ev.bind this (Ev.tru rfl Ev.pure))
  · refine Ev.turn (fun k => ref12_Read.p0_succ k _ _ _ _ _ _ _) ?_
    unfold ref12_Read.e0
    have := look_ev (fin := fin) hS h
    rw [hlk] at this
    exact Ev.tru (dec_t (by omega)) (Ev.bind this (Ev.fls rfl (Ev.tru rfl Ev.pure)))
  · refine Ev.turn (fun k => ref12_Read.p0_succ k _ _ _ _ _ _ _) ?_
    unfold ref12_Read.e0
    have := look_ev (fin := fin) hS h
    rw [hlk] at this
    refine Ev.tru (dec_t (by omega)) (Ev.bind this (Ev.fls rfl (Ev.fls rfl ?_)))
    refine read_lines hS hj (fun bg2 hbg2 => ?_) (j - d) d (by omega) bg hbg
    refine Ev.turn (fun k => ref12_Read.p4_succ k _ _ _ _ _ _ _ _) ?_
    unfold ref12_Read.e4
    have hlj := lc_le S j
    have e2 : IntKind.i64.wrap (IntKind.i64.wrap ((j : Int) - bg2) + 1) = ((lc S j).2 : Int) := by rw [wr (n := (j : Int) - bg2) (by omega) (by omega), wr (by omega) (by omega)]; omega
    rw [e2]
    refine Ev.fls (dec_f (by omega)) (Ev.tru (by simpa using ble_bound (n := l.length + 1) (by omega) 56 (by omega)) (Ev.bind (rgap_ev hS h3) ?_))
    exact ih ((gapS_ge S false e).2 h3) (by have := (gapS_ge S false e).1; simp; omega) j (by have := (gapS_ge S false e).1; omega) bg2 hbg2
theorem read_ev (hS : S.size ≤ 4294967280) : Ev (fun k => ref12_Read.f k S fin) (encR (telR S fin [] false 0)) := by
  unfold ref12_Read.f ref12_Read.e telR
  exact Ev.bind (rgap_ev hS (i := 0) (Nat.zero_le _)) (read_loop hS ((gapS_ge S false 0).2 (Nat.zero_le _)) (by simp) 0 (Nat.zero_le _) 0 (by simp [lc]))
section
variable {T : ByteArray} {n : Nat}
abbrev hd (T : ByteArray) (n : Nat) : ByteArray := T.extract 0 n
theorem hd_size (hn : n ≤ T.size) : (hd T n).size = n := by rw [ext_size T hn]; omega
theorem hd_bt (hn : n ≤ T.size) {j : Nat} (h : j < n) : bt (hd T n) j = bt T j := by
  have := bt_ext T (i := 0) hn (j := j) (by omega)
  rwa [Nat.zero_add] at this
theorem hd_ext {a b : Nat} (h : b ≤ n) : (hd T n).extract a b = T.extract a b := by
  rw [ByteArray.extract_extract, Nat.zero_add, Nat.zero_add, Nat.min_eq_left h]
theorem hd_txt {a b : Nat} (h : b ≤ n) : txt (hd T n) a b = txt T a b := by unfold txt; rw [hd_ext h]
theorem hd_lc (hn : n ≤ T.size) : ∀ {j : Nat}, j ≤ n → lc (hd T n) j = lc T j
  | 0, _ => rfl
  | j + 1, h => by unfold lc; rw [hd_bt hn h, hd_lc hn (show j ≤ n by omega)]
theorem hd_run (hn : n ≤ T.size) (p : Int → Bool) : ∀ m i, n - i ≤ m → runE p (hd T n) i < n → runE p T i = runE p (hd T n) i := by
  intro m
  induction m with
  | zero =>
    intro i hm h
    rw [runE_end p _ (by rw [hd_size hn]; omega)] at h
    omega
  | succ m ih =>
    intro i hm h
    by_cases hi : i < n
    · cases hp : p (bt T i) with
      | true =>
        have hp' : p (bt (hd T n) i) = true := by rw [hd_bt hn hi]; exact hp
        rw [runE_yes (by rw [hd_size hn]; exact hi) hp'] at h ⊢
        rw [runE_yes (by omega) hp]
        exact ih (i + 1) (by omega) h
      | false =>
        have hp' : p (bt (hd T n) i) = false := by rw [hd_bt hn hi]; exact hp
        rw [runE_no (by rw [hd_size hn]; exact hi) hp', runE_no (by omega) hp]
    · rw [runE_end p _ (by rw [hd_size hn]; exact hi)] at h
      omega
theorem hd_run_le (hn : n ≤ T.size) (p : Int → Bool) {i : Nat} (hi : i ≤ n) : runE p (hd T n) i ≤ n := by
  have := runE_size p (hd T n) (i := i) (by rw [hd_size hn]; exact hi)
  rwa [hd_size hn] at this
theorem hd_run_ge (hn : n ≤ T.size) (p : Int → Bool) {i : Nat} (h : runE p (hd T n) i = n) (hi : i ≤ n) : n ≤ runE p T i := by
  rcases Nat.lt_or_ge (runE p T i) n with hlt | hge
  · have hst := runE_stop p T _ i rfl (by omega)
    have key : ∀ m i, n - i ≤ m → i ≤ n → runE p T i < n → runE p (hd T n) i = runE p T i := by
      intro m
      induction m with
      | zero =>
        intro i hm hi h
        have := runE_le p T i
        omega
      | succ m ih =>
        intro i hm hi h
        have hge := runE_le p T i
        have hiN : i < n := by omega
        have hiT : i < T.size := by omega
        have hiH : i < (hd T n).size := by rw [hd_size hn]; exact hiN
        cases hp : p (bt T i) with
        | true =>
          have hp' : p (bt (hd T n) i) = true := by rw [hd_bt hn hiN]; exact hp
          rw [runE_yes hiT hp] at h ⊢
          rw [runE_yes hiH hp']
          exact ih (i + 1) (by omega) (by omega) h
        | false =>
          have hp' : p (bt (hd T n) i) = false := by rw [hd_bt hn hiN]; exact hp
          rw [runE_no hiH hp', runE_no hiT hp]
    have := key _ i (Nat.le_refl _) hi hlt
    omega
  · exact hge
variable {i : Nat} {b : Bool}
theorem hd_ends (hn : n ≤ T.size) {kd : Int} {a e : Nat} (he : e < n) : endsL T i b kd a e = endsL (hd T n) i false kd a e := by
  unfold endsL
  rw [hd_size hn, hd_bt hn he, if_neg (show ¬ (e = T.size ∧ b = false) from fun h => by omega), if_neg (show ¬ (e = n ∧ false = false) from fun h => by omega), hd_ext (by omega)]
  by_cases c : sgB (bt T e) = true
  · rw [if_pos ⟨by omega, c⟩, if_pos ⟨he, c⟩]
  · rw [if_neg (fun h => c h.2), if_neg (fun h => c h.2)]
theorem ends_opn {kd : Int} {a e : Nat} (he : e = S.size) : endsL S i false kd a e = .opn := by unfold endsL; rw [if_pos ⟨he, rfl⟩]
theorem hd_sharpE (hn : n ≤ T.size) {kd : Int} {p : Int → Bool} (hi : i + 2 ≤ n) (h : sharpE (hd T n) i false kd (runE p (hd T n) (i + 2)) ≠ .opn) : sharpE T i b kd (runE p T (i + 2)) = sharpE (hd T n) i false kd (runE p (hd T n) (i + 2)) := by
  have hle := hd_run_le hn p hi
  rcases Nat.lt_or_ge (runE p (hd T n) (i + 2)) n with hlt | hge
  · rw [hd_run hn p _ _ (Nat.le_refl _) hlt]
    unfold sharpE
    by_cases c : runE p (hd T n) (i + 2) = i + 2
    · rw [if_pos c, if_pos c, hd_size hn, if_neg (show ¬ (i + 2 = T.size ∧ b = false) from fun h => by omega), if_neg (show ¬ (i + 2 = n ∧ false = false) from fun h => by omega)]
    · rw [if_neg c, if_neg c]
      exact hd_ends hn hlt
  · refine absurd ?_ h
    unfold sharpE
    by_cases c : runE p (hd T n) (i + 2) = i + 2
    · rw [if_pos c, hd_size hn, if_pos ⟨by omega, rfl⟩]
    · rw [if_neg c, ends_opn (by rw [hd_size hn]; omega)]
theorem hd_word (hn : n ≤ T.size) {kd : Int} {a : Nat} (ha : a ≤ n) (h : wordL (hd T n) i false kd a ≠ .opn) : wordL T i b kd a = wordL (hd T n) i false kd a := by
  have hle := hd_run_le hn sgB ha
  have hge0 := runE_le sgB (hd T n) a
  unfold wordL at h ⊢
  rcases Nat.lt_or_ge (runE sgB (hd T n) a) n with hlt | hge
  · rw [hd_run hn sgB _ _ (Nat.le_refl _) hlt]
    unfold wordE
    rw [hd_size hn, hd_ext (by omega), hd_bt hn (show a < n by omega)]
    by_cases c : a < runE sgB (hd T n) a ∧ digB (bt T a) = true
    · rw [if_pos c, if_pos c]
    · rw [if_neg c, if_neg c, if_neg (show ¬ (runE sgB (hd T n) a = T.size ∧ b = false) from fun h => by omega), if_neg (show ¬ (runE sgB (hd T n) a = n ∧ false = false) from fun h => by omega)]
  · have hgT := hd_run_ge hn sgB (i := a) (by omega) ha
    unfold wordE at h ⊢
    by_cases c : a < runE sgB (hd T n) a ∧ digB (bt (hd T n) a) = true
    · rw [if_pos c]
      have c1 := c.1
      rw [hd_bt hn (by omega)] at c
      rw [if_pos ⟨by omega, c.2⟩]
    · rw [if_neg c, hd_size hn, if_pos ⟨by omega, rfl⟩] at h
      exact absurd rfl h
theorem hd_num (hn : n ≤ T.size) (hi : i < n) (h : numL (hd T n) i false ≠ .opn) : numL T i b = numL (hd T n) i false := by
  have hle := hd_run_le hn digB (Nat.le_of_lt hi)
  unfold numL at h ⊢
  rw [hd_bt hn hi] at h ⊢
  rcases Nat.lt_or_ge (runE digB (hd T n) i) n with hlt | hge
  · rw [hd_run hn digB _ _ (Nat.le_refl _) hlt]
    by_cases c : i + 1 < runE digB (hd T n) i ∧ bt T i = 48
    · rw [if_pos c, if_pos c]
    · rw [if_neg c] at h
      rw [if_neg c, if_neg c]
      generalize runE digB (hd T n) i = e at *
      have eH : numE (hd T n) i false e = if e < n ∧ bt T e = 46 then (if runE digB (hd T n) (e + 1) = e + 1 then (if e + 1 = n ∧ false = false then Lk.opn else .bad 120 i) else endsL (hd T n) i false 6 i (runE digB (hd T n) (e + 1))) else endsL (hd T n) i false 5 i e := by unfold numE; rw [hd_size hn, hd_bt hn hlt]
      rw [eH] at h ⊢
      unfold numE
      by_cases c2 : bt T e = 46
      · rw [if_pos ⟨hlt, c2⟩] at h
        rw [if_pos (show e < T.size ∧ bt T e = 46 from ⟨by omega, c2⟩), if_pos (show e < n ∧ bt T e = 46 from ⟨hlt, c2⟩)]
        have hle2 := hd_run_le hn digB (i := e + 1) (by omega)
        have hge2 := runE_le digB (hd T n) (e + 1)
        rcases Nat.lt_or_ge (runE digB (hd T n) (e + 1)) n with hlt2 | hge3
        · rw [hd_run hn digB _ _ (Nat.le_refl _) hlt2]
          by_cases c3 : runE digB (hd T n) (e + 1) = e + 1
          · rw [if_pos c3, if_pos c3, if_neg (show ¬ (e + 1 = T.size ∧ b = false) from fun h => by omega), if_neg (show ¬ (e + 1 = n ∧ false = false) from fun h => by omega)]
          · rw [if_neg c3, if_neg c3]
            exact hd_ends hn hlt2
        · refine absurd ?_ h
          by_cases c3 : runE digB (hd T n) (e + 1) = e + 1
          · rw [if_pos c3, if_pos ⟨by omega, rfl⟩]
          · rw [if_neg c3, ends_opn (by rw [hd_size hn]; omega)]
      · rw [if_neg (fun h => c2 h.2), if_neg (fun h => c2 h.2)]
        exact hd_ends hn hlt
  · have hgT := hd_run_ge hn digB (i := i) (by omega) (Nat.le_of_lt hi)
    by_cases c : i + 1 < runE digB (hd T n) i ∧ bt T i = 48
    · rw [if_pos c, if_pos ⟨by have := c.1; omega, c.2⟩]
    · rw [if_neg c] at h
      refine absurd ?_ h
      unfold numE
      rw [hd_size hn, if_neg (fun h => by omega), ends_opn (by rw [hd_size hn]; omega)]
theorem hd_bar (hn : n ≤ T.size) : ∀ m j, n - j ≤ m → barE (hd T n) i false j ≠ .opn → barE T i b j = barE (hd T n) i false j := by
  intro m
  induction m with
  | zero =>
    intro j hm h
    rw [barE_end (by rw [hd_size hn]; omega)] at h
    exact absurd rfl h
  | succ m ih =>
    intro j hm h
    by_cases hj : j < n
    · have eH := barE_step (S := hd T n) (i := i) (fin := false) (j := j) (by rw [hd_size hn]; exact hj)
      have eT := barE_step (S := T) (i := i) (fin := b) (j := j) (by omega)
      rw [hd_bt hn hj, hd_ext (by omega)] at eH
      rw [eH] at h ⊢
      rw [eT]
      by_cases c1 : bt T j = 124
      · rw [if_pos c1, if_pos c1]
      · rw [if_neg c1] at h
        rw [if_neg c1, if_neg c1]
        by_cases c2 : quoB (bt T j) = false ∨ bt T j = 92
        · rw [if_pos c2, if_pos c2]
        · rw [if_neg c2] at h
          rw [if_neg c2, if_neg c2]
          exact ih (j + 1) (by omega) h
    · rw [barE_end (by rw [hd_size hn]; exact hj)] at h
      exact absurd rfl h
theorem hd_text (hn : n ≤ T.size) : ∀ m j, n - j ≤ m → textE (hd T n) i false j ≠ .opn → textE T i b j = textE (hd T n) i false j := by
  intro m
  induction m with
  | zero =>
    intro j hm h
    rw [textE_end (by rw [hd_size hn]; omega)] at h
    exact absurd rfl h
  | succ m ih =>
    intro j hm h
    by_cases hj : j < n
    · by_cases hq : bt T j = 34
      · have eH := textE_quote (S := hd T n) (i := i) (fin := false) (j := j) (by rw [hd_size hn]; exact hj) (by rw [hd_bt hn hj]; exact hq)
        have eT := textE_quote (S := T) (i := i) (fin := b) (j := j) (by omega) hq
        rw [hd_size hn, hd_txt (by omega)] at eH
        rw [eH] at h ⊢
        rw [eT]
        by_cases c1 : j + 1 < n
        · rw [hd_bt hn c1] at h ⊢
          by_cases c2 : bt T (j + 1) = 34
          · rw [if_pos ⟨c1, c2⟩] at h
            rw [if_pos ⟨by omega, c2⟩, if_pos ⟨c1, c2⟩]
            exact ih (j + 2) (by omega) h
          · rw [if_neg (show ¬ (j + 1 < T.size ∧ bt T (j + 1) = 34) from fun h => c2 h.2), if_neg (show ¬ (j + 1 < n ∧ bt T (j + 1) = 34) from fun h => c2 h.2), if_neg (show ¬ (j + 1 = T.size ∧ b = false) from fun h => by omega), if_neg (show ¬ (j + 1 = n ∧ false = false) from fun h => by omega)]
        · rw [if_neg (fun h => c1 h.1), if_pos ⟨by omega, rfl⟩] at h
          exact absurd rfl h
      · have eH := textE_step (S := hd T n) (i := i) (fin := false) (j := j) (by rw [hd_size hn]; exact hj) (by rw [hd_bt hn hj]; exact hq)
        have eT := textE_step (S := T) (i := i) (fin := b) (j := j) (by omega) hq
        rw [hd_bt hn hj] at eH
        rw [eH] at h ⊢
        rw [eT]
        by_cases c1 : quoB (bt T j) = false
        · rw [if_pos c1, if_pos c1]
        · rw [if_neg c1] at h
          rw [if_neg c1, if_neg c1]
          exact ih (j + 1) (by omega) h
    · rw [textE_end (by rw [hd_size hn]; exact hj)] at h
      exact absurd rfl h
theorem hd_lk (hn : n ≤ T.size) (hi : i < n) (h : lk (hd T n) i false ≠ .opn) : lk T i b = lk (hd T n) i false := by
  unfold lk at h ⊢
  rw [hd_bt hn hi] at h ⊢
  by_cases c1 : bt T i = 40
  · rw [if_pos c1, if_pos c1]
  rw [if_neg c1] at h; rw [if_neg c1, if_neg c1]
  by_cases c2 : bt T i = 41
  · rw [if_pos c2, if_pos c2]
  rw [if_neg c2] at h; rw [if_neg c2, if_neg c2]
  by_cases c3 : bt T i = 124
  · rw [if_pos c3] at h; rw [if_pos c3, if_pos c3]
    exact hd_bar hn _ _ (Nat.le_refl _) h
  rw [if_neg c3] at h; rw [if_neg c3, if_neg c3]
  by_cases c4 : bt T i = 34
  · rw [if_pos c4] at h; rw [if_pos c4, if_pos c4]
    exact hd_text hn _ _ (Nat.le_refl _) h
  rw [if_neg c4] at h; rw [if_neg c4, if_neg c4]
  by_cases c5 : bt T i = 35
  · rw [if_pos c5] at h; rw [if_pos c5, if_pos c5]
    unfold sharpL at h ⊢
    rw [hd_size hn] at h ⊢
    by_cases d1 : i + 1 = n
    · rw [if_pos d1, if_neg (by decide)] at h
      exact absurd rfl h
    · rw [hd_bt hn (show i + 1 < n by omega), if_neg d1] at h
      rw [hd_bt hn (show i + 1 < n by omega), if_neg d1, if_neg (show ¬ i + 1 = T.size by omega)]
      by_cases d2 : bt T (i + 1) = 120
      · rw [if_pos d2] at h; rw [if_pos d2, if_pos d2]
        exact hd_sharpE hn (by omega) h
      rw [if_neg d2] at h; rw [if_neg d2, if_neg d2]
      by_cases d3 : bt T (i + 1) = 98
      · rw [if_pos d3] at h; rw [if_pos d3, if_pos d3]
        exact hd_sharpE hn (by omega) h
      · rw [if_neg d3, if_neg d3]
  rw [if_neg c5] at h; rw [if_neg c5, if_neg c5]
  by_cases c6 : bt T i = 58
  · rw [if_pos c6] at h; rw [if_pos c6, if_pos c6]
    exact hd_word hn (by omega) h
  rw [if_neg c6] at h; rw [if_neg c6, if_neg c6]
  by_cases c7 : digB (bt T i) = true
  · rw [if_pos c7] at h; rw [if_pos c7, if_pos c7]
    exact hd_num hn hi h
  rw [if_neg c7] at h; rw [if_neg c7, if_neg c7]
  by_cases c8 : sgB (bt T i) = true
  · rw [if_pos c8] at h; rw [if_pos c8, if_pos c8]
    exact hd_word hn (Nat.le_of_lt hi) h
  · rw [if_neg c8, if_neg c8]
theorem hd_gap (hn : n ≤ T.size) {c : Bool} {i : Nat} (hi : i ≤ n) : gapS T c i = if (gapS (hd T n) c i).1 < n then gapS (hd T n) c i else gapS T (gapS (hd T n) c i).2 n := by
  have := gapS_ind (S := hd T n) (P := fun c i r => i ≤ n → gapS T c i = if r.1 < n then r else gapS T r.2 n) (fun c i h hi => by
    rw [hd_size hn] at h
    rw [if_neg (by simpa using h)]
    obtain rfl : i = n := by omega
    rfl) (fun i r h hb ih hi => by
    rw [hd_size hn] at h
    rw [hd_bt hn h] at hb
    rw [gapS_line (by omega) hb]
    exact ih hi) (fun i r h hb ih hi => by
    rw [hd_size hn] at h
    rw [hd_bt hn h] at hb
    rw [gapS_in (by omega) hb]
    exact ih (by omega)) (fun i r h hb ih hi => by
    rw [hd_size hn] at h
    rw [hd_bt hn h] at hb
    rw [gapS_semi (by omega) hb]
    exact ih (by omega)) (fun i r h h0 hb ih hi => by
    rw [hd_size hn] at h
    rw [hd_bt hn h] at hb h0
    rw [gapS_blank (by omega) h0 hb]
    exact ih (by omega)) (fun i h h0 hb hi => by
    rw [hd_size hn] at h
    rw [hd_bt hn h] at hb h0
    rw [gapS_stop (by omega) h0 hb, if_pos h]) _ c i (Nat.le_refl _)
  exact this hi
theorem hd_tel (hn : n ≤ T.size) {l : List TK} {j : Nat} {c : Bool} : j ≤ n → (j < n → c = false ∧ gapS T false j = (j, false)) → ∀ c0 i0, gapS T c0 i0 = (if j < n then (j, c) else gapS T c n) →
    (∀ cd a f l', telP (hd T n) false l j c = (l', .err cd a f) → telR T b l c0 i0 = (l', .err cd a f)) ∧ (∀ j' c' l', telP (hd T n) false l j c = (l', .ok j' c') → j' ≤ n ∧ telR T b l c0 i0 = telR T b l' c' j') := by
  refine telP_ind (S := hd T n) (fin := false) (P := fun l j c r => j ≤ n → (j < n → c = false ∧ gapS T false j = (j, false)) → ∀ c0 i0, gapS T c0 i0 = (if j < n then (j, c) else gapS T c n) →
    (∀ cd a f l', r = (l', .err cd a f) → telR T b l c0 i0 = (l', .err cd a f)) ∧ (∀ j' c' l', r = (l', .ok j' c') → j' ≤ n ∧ telR T b l c0 i0 = telR T b l' c' j')) (fun l j c h hj hc c0 i0 hg => ?_) (fun l j c h _ hlk hj hc c0 i0 hg => ?_) (fun l j c cd a h hlk h1 h2 h3 hj hc c0 i0 hg => ?_) (fun l j c k t e r h hlk he h3 ht ih hj hc c0 i0 hg => ?_) _ l j c (Nat.le_refl _)
  · rw [hd_size hn] at h
    refine ⟨fun cd a f l' e => by simp at e, fun j' c' l' e => ?_⟩
    simp only [Prod.mk.injEq, Fi.ok.injEq] at e
    obtain ⟨rfl, rfl, rfl⟩ := e
    obtain rfl : j = n := by omega
    rw [if_neg h] at hg
    exact ⟨hj, by unfold telR; rw [hg]⟩
  · rw [hd_size hn] at h
    refine ⟨fun cd a f l' e => by simp at e, fun j' c' l' e => ?_⟩
    simp only [Prod.mk.injEq, Fi.ok.injEq] at e
    obtain ⟨rfl, rfl, rfl⟩ := e
    obtain ⟨hcf, hgj⟩ := hc h
    subst hcf
    rw [if_pos h] at hg
    exact ⟨hj, by unfold telR; rw [hg, hgj]⟩
  · rw [hd_size hn] at h
    refine ⟨fun cd' a' f l' e => ?_, fun j' c' l' e => by simp at e⟩
    simp only [Prod.mk.injEq, Fi.err.injEq] at e
    obtain ⟨rfl, rfl, rfl, rfl⟩ := e
    rw [if_pos h] at hg
    unfold telR
    rw [hg]
    exact telP_bad (by omega) (by rw [hd_lk hn h (by rw [hlk]; simp), hlk])
  · rw [hd_size hn] at h h3
    rw [if_pos h] at hg
    have hlk' : lk T j b = .whl k t e := by rw [hd_lk hn h (by rw [hlk]; simp), hlk]
    have htok : tok (hd T n) k t j e = tok T k t j e := by unfold tok; rw [hd_lc hn (Nat.le_of_lt h)]
    have hge := gapS_ge (hd T n) false e
    rw [hd_size hn] at hge
    have hgap := hd_gap hn (c := false) h3
    have hstep : telR T b l c0 i0 = telR T b (l ++ [tok T k t j e]) false e := by
      unfold telR
      rw [hg]
      exact telP_whl (by omega) hlk' he
    rw [hstep]
    rw [htok] at ih
    refine ih (hge.2 h3) (fun hlt => ?_) false e hgap
    have hat := gapS_at (hd T n) false e (by rw [hd_size hn]; exact hlt)
    rw [hd_bt hn hlt] at hat
    exact ⟨hat.1, gapS_stop (by omega) hat.2.1 hat.2.2⟩
theorem hd_telR (hn : n ≤ T.size) {l : List TK} {c : Bool} {i : Nat} (hi : i ≤ n) :
    (∀ cd a f l', telR (hd T n) false l c i = (l', .err cd a f) → telR T b l c i = (l', .err cd a f)) ∧ (∀ j' c' l', telR (hd T n) false l c i = (l', .ok j' c') → j' ≤ n ∧ telR T b l c i = telR T b l' c' j') := by
  have hge := gapS_ge (hd T n) c i
  rw [hd_size hn] at hge
  refine hd_tel hn (l := l) (hge.2 hi) (fun hlt => ?_) c i ?_
  · have hat := gapS_at (hd T n) c i (by rw [hd_size hn]; exact hlt)
    rw [hd_bt hn hlt] at hat
    exact ⟨hat.1, gapS_stop (by omega) hat.2.1 hat.2.2⟩
  · exact hd_gap hn hi
end
end Go.FK


/- Tokens: New, Feed, End, At, All; TokensReads. -/
namespace Go.FK
variable {S : ByteArray}
theorem app_hd (S P : ByteArray) : hd (S ++ P) S.size = S := by
  exact ByteArray.extract_append_eq_left rfl
theorem app_rst (S P : ByteArray) {i : Nat} (hi : i ≤ S.size) : rst S i ++ P = rst (S ++ P) i := by
  have h1 : rst (S ++ P) i = (S ++ P).extract i S.size ++ (S ++ P).extract S.size (S ++ P).size := by
    rw [ByteArray.extract_append_extract, Nat.min_eq_left hi, Nat.max_eq_right (by rw [ByteArray.size_append]; omega)]
    rfl
  have h2 : (S ++ P).extract i S.size = rst S i := by
    rw [← hd_ext (T := S ++ P) (n := S.size) (Nat.le_refl _), app_hd]
    rfl
  have h3 : (S ++ P).extract S.size (S ++ P).size = P := by
    exact ByteArray.extract_append_eq_right rfl (by rw [ByteArray.size_append])
  rw [h1, h2, h3]
theorem app_plc (S P : ByteArray) {i : Nat} (hi : i ≤ S.size) : plc S i = plc (S ++ P) i := by
  have := hd_lc (T := S ++ P) (n := S.size) (by rw [ByteArray.size_append]; omega) hi
  rw [app_hd] at this
  unfold plc
  rw [this]
def emp : ByteArray := ByteArray.mk #[]
theorem emp_scn : scn emp 1 0 false 0 = ((1 : Int), ByteArray.mk #[], false, ((0 : Int), ByteArray.mk #[], (0 : Int), (0 : Int), (1 : Int), (1 : Int)), (0 : Int)) := by
  unfold scn
  rw [rst_zero]
  rfl
theorem new_ev : Ev (fun k => tokens_New.f k ()) [scn emp 1 0 false 0] := by
  rw [emp_scn]
  exact ⟨0, fun k _ => rfl⟩
theorem emp_app (S : ByteArray) : emp ++ S = S := by
  apply bytes_inj'
  rw [ByteArray.data_append, Array.toList_append]
  rfl
theorem ans_open {s : SC} (h : s.1 = 1) : Ev (fun k => tokens_Scanner_answers.f k s) (s, (0 : Int), false) := by
  unfold tokens_Scanner_answers.f tokens_Scanner_answers.e
  rw [h]
  exact Ev.fls rfl (Ev.fls rfl (Ev.fls rfl Ev.pure))
theorem feed_ev {S P : ByteArray} (hS : (S ++ P).size ≤ 4294967280) {i : Nat} (hi : i ≤ S.size) (c : Bool) : Ev (fun k => tokens_Scanner_Feed.f k (scn S 1 i c 0) P) (encS (S ++ P) (telR (S ++ P) false [] c i)) := by
  have hle : i ≤ (S ++ P).size := by rw [ByteArray.size_append]; omega
  have := tell_ev (fin := false) hS hle c
  unfold tokens_Scanner_Feed.f tokens_Scanner_Feed.e
  refine Ev.bind (ans_open rfl) (Ev.fls rfl (Ev.fls ?_ ?_))
  · have h1 : (rst S i).size + P.size ≤ (S ++ P).size := by rw [rst_size, ByteArray.size_append]; omega
    refine dec_f ?_
    show ¬ ((((rst S i).size + P.size : Nat) : Int) > 9223372036854775807)
    omega
  · have e : ((scn S 1 i c 0).1, (scn S 1 i c 0).2.1 ++ P, (scn S 1 i c 0).2.2.1, (scn S 1 i c 0).2.2.2.1, (scn S 1 i c 0).2.2.2.2) = scn (S ++ P) 1 i c 0 := by
      unfold scn
      simp only
      rw [app_rst S P hi, app_plc S P hi]
    show Ev (fun k => Option.bind (tokens_Scanner_tell.f k ((scn S 1 i c 0).1, (scn S 1 i c 0).2.1 ++ P, (scn S 1 i c 0).2.2.1, (scn S 1 i c 0).2.2.2.1, (scn S 1 i c 0).2.2.2.2) false) fun r2 => some (r2.1, r2.2.1, r2.2.2)) _
    rw [e]
    exact Ev.bind this Ev.pure
def encE (S : ByteArray) : List TK × Fi → SC × List TK × Int
  | (l, .ok j c) => (scn S 2 j c 0, l, 0)
  | (l, .err cd a c) => (scn S 3 a c cd, l, cd)
theorem end_ev (hS : S.size ≤ 4294967280) {i : Nat} (hi : i ≤ S.size) (c : Bool) : Ev (fun k => tokens_Scanner_End.f k (scn S 1 i c 0)) (encE S (telR S true [] c i)) := by
  have := tell_ev (fin := true) hS hi c
  have hf : FiOk S _ (telR S true [] c i).2 := telP_fi ((gapS_ge S c i).2 hi)
  unfold tokens_Scanner_End.f tokens_Scanner_End.e
  refine Ev.bind (ans_open rfl) (Ev.fls rfl (Ev.bind this ?_))
  generalize telR S true [] c i = r at *
  obtain ⟨l, f⟩ := r
  cases f with
  | ok j c' => exact Ev.tru rfl (Ev.turn (fun k => tokens_Scanner_End.p15_succ k _ _ _) Ev.pure)
  | err cd a c' =>
    have h0 : cd ≠ 0 := by
      have := hf.2.2
      omega
    exact Ev.fls (dec_f h0) (Ev.turn (fun k => tokens_Scanner_End.p15_succ k _ _ _) Ev.pure)
theorem at_ev {s : SC} (h : s.1 ≠ 0) : Ev (fun k => tokens_Scanner_At.f k s) (s, s.2.2.2.1) := by
  unfold tokens_Scanner_At.f tokens_Scanner_At.e
  exact Ev.fls (dec_f h) Ev.pure
theorem hd_self (S : ByteArray) : hd S S.size = S := by
  exact ByteArray.extract_zero_size
theorem tok_beq (t : TK) : (decide (t.1 = t.1) && ((t.2.1.toList == t.2.1.toList) && (decide (t.2.2.1 = t.2.2.1) && (decide (t.2.2.2.1 = t.2.2.2.1) && (decide (t.2.2.2.2.1 = t.2.2.2.2.1) && decide (t.2.2.2.2.2 = t.2.2.2.2.2)))))) = true := by
  rw [toList_beq]
  simp
end Go.FK


/- Sexpr: trees out of tokens, by the program and by the reference; SexprReads, SexprDeep. -/
namespace Go.FK
variable {S : ByteArray}
set_option maxRecDepth 20000 in
theorem lives13_at (n : Nat) : law13_lives.f (n + 64) () = some true := by kernel_rfl
theorem lives13_ev : Ev (fun k => law13_lives.f k ()) true := ⟨64, fun k hk => by
  obtain ⟨n, rfl⟩ : ∃ n, k = n + 64 := ⟨k - 64, by omega⟩
  exact lives13_at n⟩
theorem bputS_ds (o : List (TokD × List NodeD)) (ds : List NodeD) (n : NodeD) : bputS (o, ds) n = ((bputS (o, []) n).1, ds ++ (bputS (o, []) n).2) := by
  cases o with
  | nil => simp [bputS]
  | cons x r => obtain ⟨t, k⟩ := x; simp [bputS]
theorem btakeS_ds (o : List (TokD × List NodeD)) (ds : List NodeD) (t : TokD) : btakeS (o, ds) t = match btakeS (o, []) t with
    | .inl s => .inl (s.1, ds ++ s.2)
    | .inr e => .inr e := by
  unfold btakeS
  simp only
  split
  · split
    · rfl
    · simp
  · split
    · cases o with
      | nil => rfl
      | cons x r => obtain ⟨u, k⟩ := x; simp only; rw [bputS_ds]
    · rw [bputS_ds]
theorem ballS_ds : ∀ (l : List TokD) (o : List (TokD × List NodeD)) (ds : List NodeD), ballS (o, ds) l = (((ballS (o, []) l).1.1, ds ++ (ballS (o, []) l).1.2), (ballS (o, []) l).2)
  | [], o, ds => by simp [ballS]
  | t :: l, o, ds => by
    simp only [ballS]
    rw [btakeS_ds]
    cases btakeS (o, []) t with
    | inr e => simp
    | inl s =>
      obtain ⟨o1, d1⟩ := s
      simp only
      rw [ballS_ds l o1 (ds ++ d1), ballS_ds l o1 d1]
      simp
theorem btakeS_err {s : BSt} {t : TokD} {e : Int × Int} (h : btakeS s t = .inr e) : e.1 ≠ 0 := by
  unfold btakeS at h
  split at h
  · split at h
    · cases h; show (132 : Int) ≠ 0; decide
    · cases h
  · split at h
    · split at h
      · cases h; show (130 : Int) ≠ 0; decide
      · cases h
    · cases h
theorem ballS_inl {s s' : BSt} {t : TokD} {l : List TokD} (h : btakeS s t = .inl s') : ballS s (t :: l) = ballS s' l := by simp only [ballS, h]
theorem ballS_inr {s : BSt} {t : TokD} {l : List TokD} {e : Int × Int} (h : btakeS s t = .inr e) : ballS s (t :: l) = (s, e) := by simp only [ballS, h]
theorem ballS_app : ∀ (l1 l2 : List TokD) (s : BSt), ballS s (l1 ++ l2) = if (ballS s l1).2.1 = 0 then ballS (ballS s l1).1 l2 else ballS s l1
  | [], l2, s => by simp [ballS]
  | t :: l1, l2, s => by
    cases h : btakeS s t with
    | inl s' => rw [List.cons_append, ballS_inl h, ballS_inl h]; exact ballS_app l1 l2 s'
    | inr e => rw [List.cons_append, ballS_inr h, ballS_inr h]; rw [if_neg (btakeS_err h)]
theorem ballS_ok : ∀ (l : List TokD) (s : BSt), (ballS s l).2.1 = 0 → (ballS s l).2 = (0, 0)
  | [], s, _ => rfl
  | t :: l, s, h => by
    simp only [ballS] at h ⊢
    cases hb : btakeS s t with
    | inl s' => rw [hb] at h; exact ballS_ok l s' h
    | inr e => rw [hb] at h; exact absurd h (btakeS_err hb)
theorem BLim.mono {N N' : Nat} {s : BSt} (h : BLim N s) (hn : N ≤ N') : BLim N' s := ⟨Nat.le_trans h.1 hn, h.2.1, fun x hx => Nat.le_trans (h.2.2 x hx) hn⟩
theorem BLim.all : ∀ {l : List TokD} {N : Nat} {s : BSt}, BLim N s → BLim (N + l.length) (ballS s l).1
  | [], _, _, h => h
  | t :: l, N, s, h => by
    simp only [ballS]
    cases hb : btakeS s t with
    | inl s' => exact ((h.take hb).all (l := l)).mono (by simp; omega)
    | inr e => exact h.mono (by simp)
theorem BLim.zero : BLim 0 ([], []) := ⟨Nat.le_refl _, Nat.zero_le _, fun x hx => by simp at hx⟩
theorem limB_of {N n : Nat} {s : BSt} (h : BLim N s) (hn : N + n ≤ limN) : limB s n = true := by
  simp only [limB, Bool.and_eq_true, decide_eq_true_eq, List.all_eq_true]
  exact ⟨⟨by have := h.1; omega, h.2.1⟩, fun x hx => by have := h.2.2 x hx; omega⟩
def rdS (B : BSt × Int × Int) : Fi → List NodeD × Int × Int
  | .err cd a _ => if B.2.1 = 0 then (B.1.2, cd, (a : Int)) else (B.1.2, B.2)
  | .ok _ _ => if B.2.1 = 0 then (if B.1.1.length = 0 then (B.1.2, 0, 0) else (B.1.2, 131, outer B.1)) else (B.1.2, B.2)
def readS (S : ByteArray) : List NodeD × Int × Int := rdS (ballS ([], []) (telR S true [] false 0).1) (telR S true [] false 0).2
def tookV (sc : SCD) (b : BSt) (l : List TokD) (err : Int) : SCD × BSt × (Int × Int) × List NodeD :=
  (sc, ((ballS b l).1.1, []), (if (ballS b l).2.1 = 0 ∧ err ≠ 0 then (err, sc.2.2.2.1.2.2.1) else (ballS b l).2), (ballS b l).1.2)
theorem took_evS {sc : SCD} {b : BSt} {l : List TokD} {err : Int} (hl : limB b l.length = true) (hs : sc.1 ≠ 0) : Ev (fun k => tookF (fun x => tokens_Scanner_At.f k x) sc b l err) (tookV sc b l err) := by
  unfold tookF tookV
  refine Ev.tru hl ?_
  by_cases h : (ballS b l).2.1 = 0 ∧ err ≠ 0
  · rw [if_pos h]
    exact Ev.tru (by simp [h.1, h.2]) (Ev.bind (at_ev hs) Ev.pure)
  · rw [if_neg h]
    refine Ev.fls ?_ Ev.pure
    by_cases h1 : (ballS b l).2.1 = 0
    · have : err = 0 := by
        by_cases h2 : err = 0
        · exact h2
        · exact absurd ⟨h1, h2⟩ h
      simp [this]
    · simp [h1]
theorem Ev.map {α β : Type} {f : Nat → Option α} {r : α} (h : Ev f r) (g : α → β) : Ev (fun k => (f k).map g) (g r) := by
  obtain ⟨K, hk⟩ := h
  exact ⟨K, fun k h => by show (f k).map g = _; rw [hk k h]; rfl⟩
theorem sread_ev (hS : S.size ≤ 4294967280) : Ev (fun k => sexpr_Read.f k S) ((readS S).1.map NodeD.un, (readS S).2.1, (readS S).2.2) := by
  have hfeed := feed_ev (S := emp) (P := S) (by rw [emp_app]; exact hS) (i := 0) (Nat.zero_le _) false
  rw [emp_app] at hfeed
  have hm := hd_telR (T := S) (n := S.size) (b := true) (Nat.le_refl _) (l := []) (c := false) (i := 0) (Nat.zero_le _)
  rw [hd_self] at hm
  have hf : FiOk S _ (telR S false [] false 0).2 := telP_fi ((gapS_ge S false 0).2 (Nat.zero_le _))
  have hlen : (telR S false [] false 0).1.length ≤ S.size := telP_len (by simp) ((gapS_ge S false 0).2 (Nat.zero_le _))
  unfold sexpr_Read.f
  refine Ev.map (r := readS S) ?_ _
  unfold readF
  refine Ev.bind new_ev ?_
  simp only
  unfold feedR
  generalize hr : telR S false [] false 0 = r at *
  obtain ⟨l, f⟩ := r
  simp only at hlen
  have hl0 : limB ([], []) l.length = true := limB_of BLim.zero (by simp only [limN]; omega)
  have hB := BLim.zero.all (l := l)
  cases f with
  | err cd a c =>
    have h0 : cd ≠ 0 := by
      have := hf.2.2
      omega
    have hR : readS S = rdS (ballS ([], []) l) (.err cd a c) := by unfold readS; rw [hm.1 cd a c l rfl]
    rw [hR]
    refine Ev.bind (Ev.bind hfeed (took_evS (sc := scn S 3 a c cd) (b := ([], [])) (l := l) (err := cd) hl0 (by show (3 : Int) ≠ 0; decide))) ?_
    unfold tookV rdS
    by_cases h1 : (ballS ([], []) l).2.1 = 0
    · simp only [h1, h0, ne_eq, not_false_eq_true, and_self, if_true]
      exact Ev.tru (by simp []) Ev.pure
    · simp only [h1, false_and, if_false]
      exact Ev.tru (by simp []) Ev.pure
  | ok j c =>
    obtain ⟨hj, hm2⟩ := hm.2 j c l rfl
    have hend := end_ev hS hj c
    have hf2 : FiOk S _ (telR S true [] c j).2 := telP_fi ((gapS_ge S c j).2 hj)
    have happ : telR S true l c j = (l ++ (telR S true [] c j).1, (telR S true [] c j).2) := by
      have := telP_app (S := S) (fin := true) (l := []) (j := (gapS S c j).1) (c := (gapS S c j).2) l
      rw [List.append_nil] at this
      exact this
    have hlen2 : (telR S true [] c j).1.length ≤ S.size := telP_len (by simp) ((gapS_ge S c j).2 hj)
    have hR : readS S = rdS (ballS ([], []) (l ++ (telR S true [] c j).1)) (telR S true [] c j).2 := by unfold readS; rw [hm2, happ]
    rw [hR, ballS_app]
    refine Ev.bind (Ev.bind hfeed (took_evS (sc := scn S 1 j c 0) (b := ([], [])) (l := l) (err := 0) hl0 (by show (1 : Int) ≠ 0; decide))) ?_
    unfold tookV
    simp only [ne_eq, not_true_eq_false, and_false, if_false]
    by_cases h1 : (ballS ([], []) l).2.1 = 0
    · rw [if_pos h1]
      refine Ev.fls (by simp [h1]) ?_
      have hB1 : BLim (0 + l.length) ((ballS ([], []) l).1.1, []) := ⟨Nat.zero_le _, hB.2.1, hB.2.2⟩
      generalize telR S true [] c j = r2 at *
      obtain ⟨l2, f2⟩ := r2
      simp only at hlen2
      have hds := ballS_ds l2 (ballS ([], []) l).1.1 (ballS ([], []) l).1.2
      have hB2 := hB1.all (l := l2)
      have hl1 : limB ((ballS ([], []) l).1.1, []) l2.length = true := limB_of hB1 (by simp only [limN]; omega)
      rw [show ((ballS ([], []) l).1 : BSt) = ((ballS ([], []) l).1.1, (ballS ([], []) l).1.2) from rfl, hds]
      unfold endR
      have hlim : ∀ e : List NodeD × Int × Int, Ev (fun _ : Nat => bif decide ((ballS ([], []) l).1.2.length + (ballS ((ballS ([], []) l).1.1, []) l2).1.2.length ≤ limN) then some e else none) e := fun e => by
        refine Ev.tru (decide_eq_true ?_) Ev.pure
        have h1 := hB.1
        have h2 := hB2.1
        simp only [limN]
        omega
      generalize hb2 : ballS ((ballS ([], []) l).1.1, []) l2 = B2 at *
      cases f2 with
      | ok j2 c2 =>
        refine Ev.bind (Ev.bind hend (Ev.bind (took_evS (sc := scn S 2 j2 c2 0) (b := ((ballS ([], []) l).1.1, [])) (l := l2) (err := 0) hl1 (by show (2 : Int) ≠ 0; decide)) (s := if B2.2.1 = 0 ∧ ¬ B2.1.1.length = 0 then (scn S 2 j2 c2 0, (B2.1.1, []), (131, outer (B2.1.1, [])), B2.1.2) else (scn S 2 j2 c2 0, (B2.1.1, []), B2.2, B2.1.2)) ?_)) ?_
        · unfold tookV
          simp only [ne_eq, not_true_eq_false, and_false, if_false, hb2]
          by_cases h : B2.2.1 = 0 ∧ ¬ B2.1.1.length = 0
          · rw [if_pos h]; exact Ev.tru (by simp [h.1]; simpa using h.2) Ev.pure
          · rw [if_neg h]; refine Ev.fls ?_ Ev.pure
            by_cases h' : B2.2.1 = 0
            · have : B2.1.1.length = 0 := by
                by_cases h2 : B2.1.1.length = 0
                · exact h2
                · exact absurd ⟨h', h2⟩ h
              simp [this]
            · simp [h']
        · unfold rdS
          simp only
          by_cases h2 : B2.2.1 = 0
          · have hok := ballS_ok l2 ((ballS ([], []) l).1.1, []) (by rw [hb2]; exact h2)
            rw [hb2] at hok
            by_cases h3 : B2.1.1.length = 0
            · simp only [h3, not_true_eq_false, and_false, if_false, if_true, hok]
              exact hlim _
            · simp only [h2, h3, not_false_eq_true, and_self, if_true, if_false]
              exact hlim _
          · simp only [h2, false_and, if_false]
            exact hlim _
      | err cd a c2 =>
        have h0 : cd ≠ 0 := by
          have := hf2.2.2
          omega
        refine Ev.bind (Ev.bind hend (Ev.bind (took_evS (sc := scn S 3 a c2 cd) (b := ((ballS ([], []) l).1.1, [])) (l := l2) (err := cd) hl1 (by show (3 : Int) ≠ 0; decide)) (s := (scn S 3 a c2 cd, (B2.1.1, []), (if B2.2.1 = 0 then (cd, (a : Int)) else B2.2), B2.1.2)) ?_)) ?_
        · unfold tookV
          simp only [hb2]
          by_cases h : B2.2.1 = 0
          · simp only [h, h0, ne_eq, not_false_eq_true, and_self, if_true]
            exact Ev.fls (by simp []) Ev.pure
          · simp only [h, false_and, if_false]
            exact Ev.fls (by simp []) Ev.pure
        · unfold rdS
          simp only
          by_cases h2 : B2.2.1 = 0
          · simp only [h2, if_true]
            exact hlim _
          · simp only [h2, if_false]
            exact hlim _
    · rw [if_neg h1]
      have e : rdS (ballS ([], []) l) (telR S true [] c j).2 = ((ballS ([], []) l).1.2, (ballS ([], []) l).2) := by
        cases (telR S true [] c j).2 <;> simp only [rdS, h1, if_false]
      rw [e]
      exact Ev.tru (by simp [h1]) Ev.pure
theorem build_ev {l : List TokD} (hl : l.length ≤ 4294967280) : Ev (fun k => ref13_Build.f k l) ((ballS ([], []) l).1.2.map NodeD.un, (ballS ([], []) l).1.1.reverse, (ballS ([], []) l).2) := ⟨0, fun k _ => by
  unfold ref13_Build.f buildF
  rw [limB_of BLim.zero (by simp only [limN]; omega)]
  rfl⟩
theorem rread_ev (hS : S.size ≤ 4294967280) : Ev (fun k => ref13_Read.f k S) ((readS S).1.map NodeD.un, (readS S).2.1, (readS S).2.2) := by
  have hrd := read_ev (fin := true) hS
  have hf : FiOk S _ (telR S true [] false 0).2 := telP_fi ((gapS_ge S false 0).2 (Nat.zero_le _))
  have hlen : (telR S true [] false 0).1.length ≤ S.size := telP_len (by simp) ((gapS_ge S false 0).2 (Nat.zero_le _))
  unfold ref13_Read.f ref13_Read.e ref13_Whole.f ref13_Whole.e readS
  have h17 : ∀ (z b : (List ((Int × ByteArray × Int × Int × Int × Int) × (List NodeD))) × (List ((Int × ByteArray × Int × Int × Int × Int) × (List NodeD))) × Int × Int), Ev (fun k => ref13_Whole.p17 k z b) b := fun z b => Ev.turn (fun k => ref13_Whole.p17_succ k _ _) (by unfold ref13_Whole.e17; exact Ev.pure)
  generalize telR S true [] false 0 = r at *
  obtain ⟨l, f⟩ := r
  simp only at hlen hf
  refine Ev.bind (r := ((rdS (ballS ([], []) l) f).1.map NodeD.un, (ballS ([], []) l).1.1.reverse, (rdS (ballS ([], []) l) f).2)) (Ev.bind hrd ?_) Ev.pure
  have hb := build_ev (l := l) (by omega)
  have e1 : (encR (l, f)).1 = l := by cases f <;> rfl
  rw [e1]
  refine Ev.bind hb ?_
  simp only
  by_cases h1 : (ballS ([], []) l).2.1 = 0
  · refine Ev.fls (by simp [h1]) ?_
    have hok := ballS_ok l _ h1
    cases f with
    | err cd a c =>
      have h0 : cd ≠ 0 := by
        have := hf.2.2
        omega
      simp only [encR, rdS, h1, if_true]
      exact Ev.tru (by simp [h0]) (h17 _ _)
    | ok j c =>
      simp only [encR, rdS, h1, if_true]
      refine Ev.fls rfl (Ev.tru rfl ?_)
      by_cases h2 : (ballS ([], []) l).1.1.length = 0
      · rw [if_pos h2]
        refine Ev.fls (by simp [h2]) ?_
        simp only
        rw [hok]
        exact h17 _ _
      · rw [if_neg h2]
        refine Ev.tru (by simp; omega) (Ev.tru (by simp; omega) ?_)
        have : (nthD (((0 : Int), (ByteArray.mk #[]), (0 : Int), (0 : Int), (0 : Int), (0 : Int)), ([] : List NodeD)) (ballS ([], []) l).1.1.reverse 0).1.2.2.1 = outer (ballS ([], []) l).1 := by
          unfold outer
          cases h : (ballS ([], []) l).1.1.reverse with
          | nil => exact absurd (by simpa using h) (fun e : (ballS ([], []) l).1.1 = [] => h2 (by rw [e]; rfl))
          | cons x r => rfl
        rw [this]
        exact h17 _ _
  · refine Ev.tru (by simp [h1]) ?_
    have e2 : rdS (ballS ([], []) l) f = ((ballS ([], []) l).1.2, (ballS ([], []) l).2) := by cases f <;> simp only [rdS, h1, if_false]
    rw [e2]
    exact h17 _ _
end Go.FK


/- Sexpr: alike trees; SexprReads, SexprDeep. -/
namespace Go.FK
variable {S : ByteArray}
inductive TB (N : Nat) : NodeD → Prop
  | mk {t : TokD} {k : List NodeD} (h1 : k.length ≤ N) (h2 : ∀ x, x ∈ k → TB N x) : TB N (.mk t k)
def TBS (N : Nat) (s : BSt) : Prop := (∀ n, n ∈ s.2 → TB N n) ∧ ∀ x, x ∈ s.1 → ∀ n, n ∈ x.2 → TB N n
theorem TBS.put {N : Nat} {s : BSt} {n : NodeD} (h : TBS N s) (hn : TB N n) : TBS N (bputS s n) := by
  obtain ⟨o, ds⟩ := s
  cases o with
  | nil =>
    refine ⟨fun m hm => ?_, fun x hx => by simp [bputS] at hx⟩
    rcases List.mem_append.1 hm with hm | hm
    · exact h.1 m hm
    · rw [List.mem_singleton.1 hm]; exact hn
  | cons x r =>
    obtain ⟨t, k⟩ := x
    refine ⟨h.1, fun x hx m hm => ?_⟩
    rcases List.mem_cons.1 hx with rfl | hx
    · rcases List.mem_append.1 hm with hm | hm
      · exact h.2 (t, k) (List.mem_cons_self ..) m hm
      · rw [List.mem_singleton.1 hm]; exact hn
    · exact h.2 x (List.mem_cons_of_mem _ hx) m hm
theorem TBS.take {N M : Nat} {s s' : BSt} {t : TokD} (h : TBS M s) (hl : BLim N s) (hN : N ≤ M) (ht : btakeS s t = .inl s') : TBS M s' := by
  unfold btakeS at ht
  split at ht
  · split at ht
    · cases ht
    · cases ht
      refine ⟨h.1, fun x hx m hm => ?_⟩
      rcases List.mem_cons.1 hx with rfl | hx
      · simp at hm
      · exact h.2 x hx m hm
  · split at ht
    · split at ht
      · cases ht
      · rename_i u k r hs
        cases ht
        have h0 := hl.2.2 (u, k) (by rw [hs]; exact List.mem_cons_self ..)
        refine TBS.put (s := (r, s.2)) ⟨h.1, fun x hx => h.2 x (by rw [hs]; exact List.mem_cons_of_mem _ hx)⟩ (.mk (Nat.le_trans h0 hN) (h.2 (u, k) (by rw [hs]; exact List.mem_cons_self ..)))
    · cases ht
      exact h.put (.mk (by simp) (fun x hx => by simp at hx))
theorem TBS.all {M : Nat} : ∀ {l : List TokD} {N : Nat} {s : BSt}, TBS M s → BLim N s → N + l.length ≤ M → TBS M (ballS s l).1
  | [], _, _, h, _, _ => h
  | t :: l, N, s, h, hl, hM => by
    simp only [List.length_cons] at hM
    cases hb : btakeS s t with
    | inl s' => rw [ballS_inl hb]; exact (h.take hl (by omega) hb).all (hl.take hb) (by omega)
    | inr e => rw [ballS_inr hb]; exact h
theorem readS_nodes (S : ByteArray) : (readS S).1 = (ballS ([], []) (telR S true [] false 0).1).1.2 := by
  unfold readS rdS
  cases (telR S true [] false 0).2 <;> simp only <;> repeat' split
  all_goals rfl
theorem readS_tb (S : ByteArray) : (readS S).1.length ≤ S.size ∧ ∀ n, n ∈ (readS S).1 → TB S.size n := by
  have hlen : (telR S true [] false 0).1.length ≤ S.size := telP_len (by simp) ((gapS_ge S false 0).2 (Nat.zero_le _))
  rw [readS_nodes]
  have h1 := BLim.zero.all (l := (telR S true [] false 0).1)
  exact ⟨by have := h1.1; omega, (TBS.all (M := S.size) (s := ([], [])) ⟨fun n hn => by simp at hn, fun x hx => by simp at hx⟩ BLim.zero (by omega)).1⟩
theorem nth_un {k : List NodeD} {d : nodeT.D} {i : Nat} (h : i < k.length) : nthD d (k.map NodeD.un) i = (k[i]).un := by
  rw [nthD_eq, List.getD_eq_getElem?_getD, List.getElem?_map, List.getElem?_eq_getElem h]
  rfl
theorem alike1_ev {N : Nat} (hN : N ≤ 4294967280) {n : NodeD} (h : TB N n) : Ev (fun k => ref13_Alike.f k n.un n.un) true := by
  induction h with
  | @mk t kd h1 h2 ih =>
    have hloop : ∀ m i, m + i = kd.length → Ev (fun k => ref13_Alike.p0 k (t, kd) (t, kd) (i : Int)) true := by
      intro m
      induction m with
      | zero =>
        intro i hi
        refine Ev.turn (fun k => ref13_Alike.p0_succ k _ _ _) ?_
        unfold ref13_Alike.e0
        exact Ev.fls (dec_f (by simp only [List.length_map]; omega)) Ev.pure
      | succ m ihm =>
        intro i hi
        refine Ev.turn (fun k => ref13_Alike.p0_succ k _ _ _) ?_
        unfold ref13_Alike.e0
        have e : IntKind.i64.wrap ((i : Int) + 1) = ((i + 1 : Nat) : Int) := by rw [wr (by omega) (by omega)]; omega
        have e2 : Int.toNat (i : Int) = i := by omega
        simp only [e, e2]
        rw [nth_un (k := kd) (i := i) (by omega)]
        refine Ev.tru (dec_t (by simp only [List.length_map]; omega)) (Ev.tru (by simp; omega) (Ev.tru (by simp; omega) (Ev.bind (ih _ (List.getElem_mem _)) (Ev.fls rfl (ihm (i + 1) (by omega))))))
    refine Ev.turn (fun k => ref13_Alike.f_succ k _ _) ?_
    unfold ref13_Alike.e
    refine Ev.fls ?_ (Ev.fls (by simp) (hloop kd.length 0 (by omega)))
    show (!(_ : Bool)) = false
    rw [show ∀ b : Bool, b = true → (!b) = false from fun b h => by rw [h]; rfl]
    exact tok_beq t
theorem alike_ev {l : List NodeD} {N : Nat} (hN : N ≤ 4294967280) (hl : l.length ≤ N) (h : ∀ n, n ∈ l → TB N n) : Ev (fun k => law13_alike.f k (l.map NodeD.un) (l.map NodeD.un)) true := by
  have hloop : ∀ m i, m + i = l.length → Ev (fun k => law13_alike.p0 k (l.map NodeD.un) (l.map NodeD.un) (i : Int)) true := by
    intro m
    induction m with
    | zero =>
      intro i hi
      refine Ev.turn (fun k => law13_alike.p0_succ k _ _ _) ?_
      unfold law13_alike.e0
      exact Ev.fls (dec_f (by simp only [List.length_map]; omega)) Ev.pure
    | succ m ihm =>
      intro i hi
      refine Ev.turn (fun k => law13_alike.p0_succ k _ _ _) ?_
      unfold law13_alike.e0
      have e : IntKind.i64.wrap ((i : Int) + 1) = ((i + 1 : Nat) : Int) := by rw [wr (by omega) (by omega)]; omega
      have e2 : Int.toNat (i : Int) = i := by omega
      simp only [e, e2]
      rw [nth_un (k := l) (i := i) (by omega)]
      exact Ev.tru (dec_t (by simp only [List.length_map]; omega)) (Ev.tru (by simp; omega) (Ev.tru (by simp; omega) (Ev.bind (alike1_ev hN (h _ (List.getElem_mem _))) (Ev.fls rfl (ihm (i + 1) (by omega))))))
  unfold law13_alike.f law13_alike.e
  exact Ev.fls (by simp) (hloop l.length 0 (by omega))
theorem sdeep_loop {n : Int} (hn : 0 ≤ n ∧ n ≤ 65535) {T : ByteArray} (hT : T.size ≤ 16777216) : ∀ (m i : Nat) (P : ByteArray), m + i = (n % 1003).toNat → P.size = i → Ev (fun k => law13_SexprDeep.p0 k n T P (i : Int)) true := by
  have hmod : Int.tmod (IntKind.i64.wrap n) (1003 : Int) = n % 1003 := by rw [wr (by omega) (by omega)]; exact Int.tmod_eq_emod_of_nonneg hn.1
  have hb : 0 ≤ n % 1003 ∧ n % 1003 < 1003 := ⟨Int.emod_nonneg _ (by decide), Int.emod_lt_of_pos _ (by decide)⟩
  intro m
  induction m with
  | zero =>
    intro i P hi hP
    refine Ev.turn (fun k => law13_SexprDeep.p0_succ k _ _ _ _) ?_
    unfold law13_SexprDeep.e0
    rw [hmod]
    have hs : (P ++ T).size ≤ 4294967280 := by rw [ByteArray.size_append]; omega
    obtain ⟨h1, h2⟩ := readS_tb (P ++ T)
    refine Ev.fls (dec_f (by omega)) (Ev.fls (dec_f ?_) ?_)
    · show ¬ (((P.size + T.size : Nat) : Int) > 9223372036854775807)
      omega
    · exact Ev.bind (sread_ev hs) (Ev.bind (rread_ev hs) (Ev.bind lives13_ev (Ev.tru rfl (Ev.tru (by simp) (Ev.tru (by simp) (Ev.bind (alike_ev hs h1 h2) Ev.pure))))))
  | succ m ih =>
    intro i P hi hP
    refine Ev.turn (fun k => law13_SexprDeep.p0_succ k _ _ _ _) ?_
    unfold law13_SexprDeep.e0
    rw [hmod]
    have e : IntKind.i64.wrap ((i : Int) + 1) = ((i + 1 : Nat) : Int) := by rw [wr (by omega) (by omega)]; omega
    refine Ev.tru (dec_t (by omega)) (Ev.fls (dec_f ?_) ?_)
    · have : (ByteArray.mk #[40]).size = 1 := rfl
      show ¬ (((P.size + (ByteArray.mk #[40]).size : Nat) : Int) > 9223372036854775807)
      omega
    · rw [e]
      exact ih (i + 1) _ (by omega) (by rw [ByteArray.size_append, hP]; rfl)
theorem sdeep_math (x : TD [.int .u16, .str]) (hw : wfDs (encT [.int .u16, .str] x)) (hm : massDs (encT [.int .u16, .str] x) ≤ 1048576) : ∃ k, law13_SexprDeep.f k x.1 x.2 = some true := by
  have hm' : Ty.mass (.int .u16) x.1 + (Ty.str.mass x.2 + 0) ≤ 1048576 := hm
  have h2 : (show ByteArray from x.2).size ≤ Ty.str.mass x.2 := by
    show _ ≤ _
    first | exact Nat.le_refl _ | exact Nat.le_succ _ | (simp only [Ty.mass]; omega)
  have hn : 0 ≤ (show Int from x.1) ∧ (show Int from x.1) ≤ 65535 := by
    have := hw.1
    first | exact this | (simp [Ty.wf, IntKind.inRange, IntKind.min, IntKind.max] at this; omega)
  have := sdeep_loop hn (T := x.2) (by have : (show ByteArray from x.2).size ≤ 16777216 := by omega
                                       exact this) ((show Int from x.1) % 1003).toNat 0 (ByteArray.mk #[]) (by omega) rfl
  exact (this : Ev (fun k => law13_SexprDeep.f k x.1 x.2) true).some
end Go.FK
