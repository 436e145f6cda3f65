/- A region: whatever its order, what the interpreter finds holds of the machine. -/
import Derived.Test.YtiacmfebhoodnaaFkR
namespace Go.FK
open Go.RowKit

variable {P : Program} {X R : Type} {nt : Nat × List Value}

theorem exists_least {p : Nat → Bool} : ∀ (n i : Nat), i < n → p i = false → ∃ k, k ≤ i ∧ p k = false ∧ ∀ j, j < k → p j = true := by
  intro n
  induction n with
  | zero => intro i hi; omega
  | succ n ih =>
    intro i hi hp
    by_cases h : ∃ j, j < i ∧ p j = false
    · obtain ⟨j, hj, hpj⟩ := h
      obtain ⟨k, h1, h2, h3⟩ := ih j (by omega) hpj
      exact ⟨k, by omega, h2, h3⟩
    · exact ⟨i, Nat.le_refl _, hp, fun j hj => by
        cases hx : p j with
        | true => rfl
        | false => exact absurd ⟨j, hj, hx⟩ h⟩

theorem ready_ne {ops : List Oper} {m : Nat} (hd : Draw ops m) {L : Array Bool} (hsz : L.size = ops.length) {i : Nat} (hi : i < ops.length) (hs : Sl L i = false) : Region.ready .any ops.toArray L ≠ [] := by
  obtain ⟨k, h1, h2, h3⟩ := exists_least ops.length i hi hs
  have hk : k < ops.length := by omega
  obtain ⟨o, ho⟩ : ∃ o, ops[k]? = some o := ⟨ops[k], by simp [hk]⟩
  have := ready_of hsz ho h2 fun e he hb => h3 _ (hd.back k o ho e he hb)
  intro h
  rw [h] at this
  cases this

theorem ready_before {ops : List Oper} {L : Array Bool} (hcl : ∀ i, Sl L i = true → ∀ k, (nthD 0 (befores ops []) i).testBit k = true → Sl L k = true) {j : Nat} {o : Oper} (ho : ops[j]? = some o)
    (he : ∀ e ∈ o.after.toList, Region.binds .any e = true → Sl L e.on = true) {i : Nat} (h : (nthD 0 (befores ops []) j).testBit i = true) : Sl L i = true := by
  obtain ⟨e, h1, h2, h3⟩ := before_bit ho h
  rcases h3 with h3 | h3
  · rw [h3]; exact he e h1 h2
  · exact hcl _ (he e h1 h2) i h3

theorem Sl_lt {L : Array Bool} {i : Nat} (h : Sl L i = true) : i < L.size := by
  rcases Nat.lt_or_ge i L.size with h' | h'
  · exact h'
  · simp [Sl, Array.getD_eq_getD_getElem?, Array.getElem?_eq_none h'] at h

theorem closed_set {ops : List Oper} {L : Array Bool} (hcl : ∀ i, Sl L i = true → ∀ k, (nthD 0 (befores ops []) i).testBit k = true → Sl L k = true) {j : Nat} {o : Oper} (ho : ops[j]? = some o) (hj : j < L.size)
    (he : ∀ e ∈ o.after.toList, Region.binds .any e = true → Sl L e.on = true) : ∀ i, Sl (L.setIfInBounds j true) i = true → ∀ k, (nthD 0 (befores ops []) i).testBit k = true → Sl (L.setIfInBounds j true) k = true := by
  intro i hi k hk
  rw [Sl_set hj] at hi ⊢
  simp only [Bool.or_eq_true, beq_iff_eq] at hi ⊢
  rcases hi with hi | hi
  · subst hi
    exact .inr (ready_before hcl ho he hk)
  · exact .inr (hcl i hi k hk)

/-- A pure operation that is ready may be taken first. -/
theorem take_first {ops : List Oper} {m : Nat} (hd : Draw ops m) {i : Nat} {p : Oper} (hp : ops[i]? = some p) (hpu : pureB p.op = true) {L : Array Bool} (hrdy : i ∈ Region.ready .any ops.toArray L) (hb : ∀ k, (nthD 0 (befores ops []) i).testBit k = true → Sl L k = true) (hsz : L.size = ops.length)
    {Q : Exit → Act → World → Prop} (hQ : ∀ c a w, ¬ Q (.panic c) a w) {fuel : Nat} {v : Value} {a : Act} {w : World} (hy : Yields P ops.toArray p v a) (h : wpAny P .any ops.toArray Q fuel (L.setIfInBounds i true) (a.put p.dst v) w) : wpAny P .any ops.toArray Q (fuel + 1) L a w := by
  refine wpAny_first (by simpa using hp) (fun j o cs b ho => hd.nosel j o cs b ho) (fun c a w hc => absurd hc (hQ c _ w)) fuel L a w (fun j oj hj hne hun hno => ?_) hrdy hy h
  have hj' : ops[j]? = some oj := by simpa using hj
  rcases hd.apart i p hp hpu j oj hj' hne with h | ⟨e, h1, h2, h3⟩ | h
  · have := hb j h
    have hlt : j < L.size := by have := (List.getElem?_eq_some_iff.1 hj').1; omega
    simp only [Sl] at this
    simp [Array.getD_eq_getD_getElem?, hlt] at this hun
    rw [this] at hun
    cases hun
  · exact absurd h3 (hno e (by simpa using h1) h2)
  · exact h

theorem before_lt {ops : List Oper} {m : Nat} (hd : Draw ops m) : ∀ n i q, i < n → (nthD 0 (befores ops []) i).testBit q = true → q < i := by
  intro n
  induction n with
  | zero => intro i q hi; omega
  | succ n ihn =>
    intro i q hi hq
    have hil : i < ops.length := by
      rcases Nat.lt_or_ge i ops.length with h' | h'
      · exact h'
      · rw [nthD_eq, List.getD_eq_getElem?_getD, List.getElem?_eq_none (by rw [befores_length]; exact h')] at hq
        simp at hq
    obtain ⟨p, hp⟩ : ∃ p, ops[i]? = some p := ⟨ops[i], by simp [hil]⟩
    obtain ⟨e, h5, h6, h7⟩ := before_bit hp hq
    have hb := hd.back i p hp e h5 h6
    rcases h7 with h7 | h7
    · omega
    · have := ihn e.on q (by omega) h7
      omega

theorem yields_of {a : Act} {all : List Oper} {o : Oper} {v : Value} {y : Bool} (hw : Region.wanted o (yielded all.toArray a.tmps) = y) (h1 : y = true → ∀ w, (execOp a.eval o).run P w = .ok (.value v) w) (h2 : y = false → v = undef) : Yields P all.toArray o v a := by
  cases y
  · exact .inr ⟨hw, h2 rfl⟩
  · exact .inl ⟨hw, h1 rfl⟩

theorem pure_step {E : Env X} {all : List Oper} {n0 : Nat} {o : Oper} {rest : List Oper} {bs : List (Option Nat)} {s : St} {K : St → Option R} {r : R} (hpu : pureB o.op = true)
    (h : runOps E all n0 (o :: rest) bs s K = some r) {M0 : Nat → Prop} {b0 : Nat → Prop} {w0 w : World} {a : Act} (hm : Matches M0 b0 w0 nt s a w) :
    ∃ v s', Yields P all.toArray o v a ∧ runOps E all n0 rest (bs.drop 1) s' K = some r ∧ Matches M0 b0 w0 nt s' (a.put o.dst v) w := by
  obtain ⟨y, hy, hk⟩ := runOps_cons h
  have hwt := hy.wanted hm
  cases y
  · simp only [cond_false, skipK] at hk
    exact ⟨undef, _, yields_of hwt (fun h => by cases h) (fun _ => rfl), hk, skip_matches hm o.dst⟩
  · have hE : isEff E o.op = false := by
      cases ho : o.op <;> simp [pureB, ho] at hpu <;> simp [isEff]
    simp only [cond_true, stepK, hE, cond_false] at hk
    obtain ⟨av, hK, hS⟩ := pure_sound (P := P) hpu hk
    obtain ⟨h1, h2, h3, hn3, ν, hw, hg, hr⟩ := hm
    obtain ⟨v, hv, hrep⟩ := hS (Msum M0 ν (obF s.obs)) ν (· < s.obs.length) (obF s.obs) w a o rfl (fun x _ => evA_rep hr x)
    refine ⟨v, _, yields_of hwt (fun _ => hv) (fun h => by cases h), hK, ?_⟩
    have hnone : obF s.obs s.obs.length = none := by
      cases hx : obF s.obs s.obs.length with
      | none => rfl
      | some ob => exact absurd (obF_lt hx) (Nat.lt_irrefl _)
    obtain ⟨hL, hG⟩ := hg.same hnone (Below.refl _ w)
    have hdom : (fun id => id < s.obs.length ∨ id = s.obs.length) = (· < (s.obs ++ [none]).length) := by
      funext id
      apply propext
      simp
      omega
    have hF := obF_snoc s.obs none
    have hkeep : ∀ {av : AV} {v : Value}, RepA (Msum M0 ν (obF s.obs)) ν (· < s.obs.length) (obF s.obs) w av v → RepA (Msum M0 ν (obF (s.obs ++ [none]))) ν (· < (s.obs ++ [none]).length) (obF (s.obs ++ [none])) w av v := by
      intro av v hr
      have := RepA.later (dom := (· < s.obs.length)) hL (Nat.lt_irrefl _) hr
      rw [hF, ← hdom]
      exact this
    exact put_matches h1 h2 h3 hn3 (hw.next (by simp) (fun _ _ => rfl)) (by rw [hF]; exact hG) (fun t => hkeep (hr t)) o.dst (hkeep hrep)

theorem tail_any {E : Env X} (hty : ∀ T ti, E.ty T = some ti → TyOk P T ti) (hfn : FnsOk P E) {ops : List Oper} {m n0 : Nat} (hd : Draw ops m) {K : St → Option R} {r : R} {M0 : Nat → Prop} {b0 : Nat → Prop} {w0 : World} {Q : Exit → Act → World → Prop} (hQp : ∀ c a w, ¬ Q (.panic c) a w)
    (hQ : ∀ s' a' w', K s' = some r → Matches M0 b0 w0 nt s' a' w' → Q .normal a' w') : ∀ (fuel k : Nat) (L : Array Bool) (s : St) (a : Act) (w : World), L.size = ops.length → ops.length - k ≤ fuel → m ≤ k → k ≤ ops.length → (∀ i, Sl L i = true ↔ i < k) →
      runOps E ops n0 (ops.drop k) (((befores ops []).drop k).map some) s K = some r → Matches M0 b0 w0 nt s a w → wpAny P .any ops.toArray Q fuel L a w := by
  intro fuel
  have hdone : ∀ (L : Array Bool) (s : St) (a : Act) (w : World), L.size = ops.length → (∀ i, Sl L i = true ↔ i < ops.length) → runOps E ops n0 (ops.drop ops.length) (((befores ops []).drop ops.length).map some) s K = some r → Matches M0 b0 w0 nt s a w →
      Region.ready .any ops.toArray L = [] ∧ Q .normal a w := by
    intro L s a w hsz hS h hm
    refine ⟨?_, hQ s a w (by simpa [runOps] using h) hm⟩
    cases hr : Region.ready .any ops.toArray L with
    | nil => rfl
    | cons j l =>
      obtain ⟨h1, h2, _⟩ := Sl_ready hsz (j := j) (by rw [hr]; simp)
      rw [(hS j).2 h1] at h2
      cases h2
  induction fuel with
  | zero =>
    intro k L s a w hsz hf hmk hk hS h hm
    have : k = ops.length := by omega
    subst this
    exact hdone L s a w hsz hS h hm
  | succ fuel ih =>
    intro k L s a w hsz hf hmk hk hS h hm
    rcases Nat.lt_or_ge k ops.length with hlt | hge
    · have hSk : Sl L k = false := by
        cases hx : Sl L k with
        | false => rfl
        | true => have := (hS k).1 hx; omega
      obtain ⟨ok, hok⟩ : ∃ o, ops[k]? = some o := ⟨ops[k], by simp [hlt]⟩
      have hbef : ∀ q, (nthD 0 (befores ops []) k).testBit q = true → Sl L q = true := fun q hq => (hS q).2 (before_lt hd (k + 1) k q (by omega) hq)
      have hdropk : ops.drop k = ok :: ops.drop (k + 1) := by
        have := List.drop_eq_getElem_cons hlt
        rw [this]
        have : ops[k] = ok := (List.getElem?_eq_some_iff.1 hok).2
        rw [this]
      have hbsk : (((befores ops []).drop k).map some).drop 1 = ((befores ops []).drop (k + 1)).map some := by
        rw [← List.map_drop, List.drop_drop]
      have hSn : ∀ i, Sl (L.setIfInBounds k true) i = true ↔ i < k + 1 := by
        intro i
        rw [Sl_set (by omega)]
        simp only [Bool.or_eq_true, beq_iff_eq, hS]
        omega
      by_cases hpu : pureB ok.op = true
      · rw [hdropk] at h
        obtain ⟨v, s', hy, hk', hm'⟩ := pure_step (P := P) hpu h hm
        rw [hbsk] at hk'
        exact take_first hd hok hpu (ready_of hsz hok hSk fun e he hb => (hS _).2 (hd.back k ok hok e he hb)) hbef hsz hQp hy (ih (k + 1) _ s' _ w (by simpa using hsz) (by omega) (by omega) (by omega) hSn hk' hm')
      refine ⟨fun hr => absurd hr (ready_ne hd hsz hlt hSk), fun j hj => ?_⟩
      obtain ⟨h1, h2, o, ho, he⟩ := Sl_ready hsz hj
      have hjk : j = k := by
        rcases Nat.lt_trichotomy j k with h' | h' | h'
        · rw [(hS j).2 h'] at h2; cases h2
        · exact h'
        · rcases hd.part j k (by omega) h1 h' with hbit | ⟨p, hp, hpp⟩
          · have := ready_before (fun i hi q hq => (hS q).2 (by
              have := (hS i).1 hi
              have := before_lt hd (i + 1) i q (by omega) hq
              omega)) ho he hbit
            rw [hSk] at this
            cases this
          · rw [hok] at hp
            cases hp
            exact absurd hpp hpu
      subst hjk
      have hdrop : ops.drop j = o :: ops.drop (j + 1) := by
        have := List.drop_eq_getElem_cons h1
        rw [this]
        have : ops[j] = o := by
          have := List.getElem?_eq_some_iff.1 ho
          exact this.2
        rw [this]
      rw [hdrop] at h
      have hbs : (((befores ops []).drop j).map some).drop 1 = ((befores ops []).drop (j + 1)).map some := by
        rw [← List.map_drop, List.drop_drop]
      have := step_sound hty hfn (Q := Q) h hm (next := wpAny P .any ops.toArray Q fuel (L.setIfInBounds j true)) fun s' a' w' h' hm' => by
        rw [hbs] at h'
        refine ih (j + 1) _ s' a' w' (by simpa using hsz) (by omega) (by omega) (by omega) (fun i => ?_) h' hm'
        rw [Sl_set (by omega)]
        simp only [Bool.or_eq_true, beq_iff_eq, hS]
        omega
      unfold wpOp
      have hoa : ops.toArray[j]? = some o := by simpa using ho
      simp only [hoa]
      exact this
    · have : k = ops.length := by omega
      subst this
      have := hdone L s a w hsz hS h hm
      exact wpAny_done this.1 this.2 _

theorem opTmps_mem {o : Op} {t : Tmp} (h : Operand.tmp t ∈ o.operands) : t ∈ opTmps o := by
  unfold opTmps
  rw [List.mem_filterMap]
  exact ⟨.tmp t, by simpa using h, rfl⟩

theorem evA_rep_at {M : Nat → Prop} {ν : Nat → Value} {dom : Nat → Prop} {obs : Obs} {w : World} {a : Act} {fr : List AV} (x : Operand) (hr : ∀ t, x = .tmp t → RepA M ν dom obs w (nthD .bad fr t) (a.tmps.getD t undef)) : RepA M ν dom obs w (evA fr x) (a.eval x) := by
  cases x with
  | tmp t => exact hr t rfl
  | const v => exact cv_rep _ _ _ _ _ _
  | global g => trivial
  | func f => rfl

theorem head_any {E : Env X} (hty : ∀ T ti, E.ty T = some ti → TyOk P T ti) (hfn : FnsOk P E) {ops : List Oper} {m n0 : Nat} {st : Nat → St} (hd : Draw ops m) (hrun : Run P ops m n0 st) {K : St → Option R} {r : R} {M0 : Nat → Prop} {b0 : Nat → Prop} {w0 : World} {Q : Exit → Act → World → Prop} (hQp : ∀ c a w, ¬ Q (.panic c) a w)
    (hQ : ∀ s' a' w', K s' = some r → Matches M0 b0 w0 nt s' a' w' → Q .normal a' w') (hK : runOps E ops n0 (ops.drop m) (((befores ops []).drop m).map some) (st m) K = some r) : ∀ (fuel : Nat) (L : Array Bool) (a : Act) (w : World), L.size = ops.length → unl (Sl L) ops.length ≤ fuel →
      (∀ i, Sl L i = true → ∀ k, (nthD 0 (befores ops []) i).testBit k = true → Sl L k = true) → (∀ i, Sl L i = true → i < m) → DInv ops m n0 st M0 b0 w0 nt (Sl L) a w → wpAny P .any ops.toArray Q fuel L a w := by
  intro fuel
  have hfull : ∀ (fuel : Nat) (L : Array Bool) (a : Act) (w : World), L.size = ops.length → unl (Sl L) ops.length ≤ fuel → (∀ i, Sl L i = true → i < m) → DInv ops m n0 st M0 b0 w0 nt (Sl L) a w → (∀ i, i < m → Sl L i = true) → wpAny P .any ops.toArray Q fuel L a w := by
    intro fuel L a w hsz hf hlt hI hall
    have hS : ∀ i, Sl L i = true ↔ i < m := fun i => ⟨hlt i, hall i⟩
    refine tail_any hty hfn hd hQp hQ fuel m L (st m) a w hsz ?_ (Nat.le_refl _) hd.le hS hK (dinv_end hd hrun hS hI)
    have : ∀ n, n ≤ ops.length → n - m ≤ unl (Sl L) n := by
      intro n
      induction n with
      | zero => intro _; omega
      | succ n ih =>
        intro hn
        have := ih (by omega)
        simp only [unl]
        by_cases h : n < m
        · omega
        · have : Sl L n = false := by
            cases hx : Sl L n with
            | false => rfl
            | true => exact absurd (hlt n hx) h
          rw [this]
          simp only [Bool.false_eq_true, if_false]
          omega
    have := this ops.length (Nat.le_refl _)
    omega
  induction fuel with
  | zero =>
    intro L a w hsz hf hcl hlt hI
    refine hfull 0 L a w hsz hf hlt hI fun i hi => ?_
    have := hd.le
    exact unl_zero (n := ops.length) (by omega) i (by omega)
  | succ fuel ih =>
    intro L a w hsz hf hcl hlt hI
    by_cases hall : ∀ i, i < m → Sl L i = true
    · exact hfull _ L a w hsz hf hlt hI hall
    · have hex : ∃ i, i < m ∧ Sl L i = false := by
        refine Classical.byContradiction fun hn => hall fun i hi => ?_
        cases hx : Sl L i with
        | true => rfl
        | false => exact absurd ⟨i, hi, hx⟩ hn
      obtain ⟨i0, hi0, hsi0⟩ := hex
      have hml := hd.le
      obtain ⟨k, hk1, hk2, hk3⟩ := exists_least ops.length i0 (by omega) hsi0
      have hkm : k < m := by omega
      obtain ⟨ok, hok⟩ : ∃ o, ops[k]? = some o := ⟨ops[k]'(by omega), by simp⟩
      have hrk : k ∈ Region.ready .any ops.toArray L := ready_of hsz hok hk2 fun e he hb => hk3 _ (hd.back k ok hok e he hb)
      by_cases hpu : pureB ok.op = true
      · -- a pure operation: it may be taken first
        obtain ⟨o', b, ho', hb, av, nob, hst, hway⟩ := hrun.step k hkm
        rw [hok] at ho'
        cases ho'
        have hrdy : ∀ i, (nthD 0 (befores ops []) k).testBit i = true → Sl L i = true := fun i hi => hk3 i (before_lt hd (k + 1) k i (by omega) hi)
        obtain ⟨g1, g2, g3, gn3, ν, hw, hg, g4⟩ := hI
        have hread : ∀ t, t ∈ readsOf ops ok → RepA (Msum M0 ν (obsS n0 (obF (st m).obs) (Sl L))) ν (domS n0 (Sl L)) (obsS n0 (obF (st m).obs) (Sl L)) w (nthD .bad (st k).fr t) (a.tmps.getD t undef) :=
          fun t ht => dinv_read hd hrun hkm hk2 hok hrdy (fun i _ hi q hq => hcl i hi q hq) g4 ht
        have hwant : ∀ y, Way ops (st k) ok y → Region.wanted ok (yielded ops.toArray a.tmps) = y := by
          intro y hy
          refine hy.wanted' fun g want p d hg1 hg2 hg3 hg4 => ?_
          have hr := hread d (by
            unfold readsOf
            simp [hg1, hg2, hg3])
          have hlt' : d < a.tmps.size := by rw [g3, ← (hrun.len k (by omega)).2]; exact nthD_lt rfl hg4
          exact ⟨a.tmps[d], by simp [hlt'], _, ν, _, _, w, by simpa [Array.getD_eq_getD_getElem?, hlt'] using hr⟩
        have hnone : obsS n0 (obF (st m).obs) (Sl L) (n0 + k) = none := by
          have : n0 + k - n0 = k := by omega
          unfold obsS
          rw [if_neg]
          simp [this, hk2]
        obtain ⟨hL, hG⟩ := hg.same hnone (Below.refl _ w)
        have hgo : ∀ v, Yields P ops.toArray ok v a → nob = none → RepA (Msum M0 ν (obsS n0 (obF (st m).obs) (Sl L))) ν (domS n0 (Sl L)) (obsS n0 (obF (st m).obs) (Sl L)) w av v → wpAny P .any ops.toArray Q (fuel + 1) L a w := by
          intro v hy hno hrep
          subst hno
          refine take_first hd hok hpu hrk hrdy hsz hQp hy ?_
          have hD := dinv_step hd hrun hkm hk2 hok hst g1 g2 g3 gn3 hw hg g4 hL hG (hrep.later hL (domS_not hk2))
          rw [← Sl_set (by omega)] at hD
          refine ih _ _ _ (by simpa using hsz) ?_ (closed_set hcl hok (by omega) fun e he hb => hk3 _ (hd.back k ok hok e he hb)) (fun i hi => ?_) hD
          · rw [Sl_set (by omega)]
            have := unl_set (S := Sl L) (n := ops.length) (j := k) (by omega) hk2
            omega
          · rw [Sl_set (by omega)] at hi
            simp only [Bool.or_eq_true, beq_iff_eq] at hi
            rcases hi with hi | hi
            · omega
            · exact hlt i hi
        rcases hway with ⟨hy, _, hp⟩ | ⟨hy, e1, e2⟩
        · obtain ⟨hno, hS⟩ := hp hpu
          obtain ⟨v, hv, hrep⟩ := hS _ ν (domS n0 (Sl L)) _ w a ok rfl (fun x hx => evA_rep_at x fun t e => by
            subst e
            exact hread t (by unfold readsOf; exact List.mem_append_left _ (opTmps_mem hx)))
          exact hgo v (yields_of (hwant _ hy) (fun _ => hv) (fun h => by cases h)) hno hrep
        · subst e1
          exact hgo undef (yields_of (hwant _ hy) (fun h => by cases h) (fun _ => rfl)) e2 rfl
      refine ⟨fun hr => absurd hr (ready_ne hd hsz (by omega) hsi0), fun j hj => ?_⟩
      obtain ⟨h1, h2, o, ho, he⟩ := Sl_ready hsz hj
      have hrdy : ∀ i, (nthD 0 (befores ops []) j).testBit i = true → Sl L i = true := fun i hi => ready_before hcl ho he hi
      have hjm : j < m := by
        rcases Nat.lt_or_ge j m with h' | h'
        · exact h'
        · rcases hd.part j k h' h1 (by omega) with hbit | ⟨p, hp, hpp⟩
          · have := hrdy k hbit
            rw [hk2] at this
            cases this
          · rw [hok] at hp
            cases hp
            exact absurd hpp hpu
      obtain ⟨o', b, ho', hb, av, nob, hst, hway⟩ := hrun.step j hjm
      rw [ho] at ho'
      cases ho'
      obtain ⟨g1, g2, g3, gn3, ν, hw, hg, g4⟩ := hI
      have hread : ∀ t, t ∈ readsOf ops o → RepA (Msum M0 ν (obsS n0 (obF (st m).obs) (Sl L))) ν (domS n0 (Sl L)) (obsS n0 (obF (st m).obs) (Sl L)) w (nthD .bad (st j).fr t) (a.tmps.getD t undef) :=
        fun t ht => dinv_read hd hrun hjm h2 ho hrdy (fun i _ hi k hk => hcl i hi k hk) g4 ht
      have hnext : ∀ (ν' : Nat → Value) (w' : World) (v : Value), Later M0 (n0 + j) ν ν' (obsS n0 (obF (st m).obs) (Sl L)) nob w w' → Good M0 b0 ν' (upd (obsS n0 (obF (st m).obs) (Sl L)) (n0 + j) nob) w' →
          RepA (Msum M0 ν' (upd (obsS n0 (obF (st m).obs) (Sl L)) (n0 + j) nob)) ν' (fun id => domS n0 (Sl L) id ∨ id = n0 + j) (upd (obsS n0 (obF (st m).obs) (Sl L)) (n0 + j) nob) w' av v → wpAny P .any ops.toArray Q fuel (L.setIfInBounds j true) (a.put o.dst v) w' := by
        intro ν' w' v hL hG hR
        have hD := dinv_step hd hrun hjm h2 ho hst g1 g2 g3 gn3 hw hg g4 hL hG hR
        rw [← Sl_set (by omega)] at hD
        refine ih _ _ _ (by simpa using hsz) ?_ (closed_set hcl ho (by omega) he) (fun i hi => ?_) hD
        · rw [Sl_set (by omega)]
          have := unl_set (S := Sl L) h1 h2
          omega
        · rw [Sl_set (by omega)] at hi
          simp only [Bool.or_eq_true, beq_iff_eq] at hi
          rcases hi with hi | hi
          · omega
          · exact hlt i hi
      have hwant : ∀ y, Way ops (st j) o y → Region.wanted o (yielded ops.toArray a.tmps) = y := by
        intro y hy
        refine hy.wanted' fun g want p d hg1 hg2 hg3 hg4 => ?_
        have hr := hread d (by
          unfold readsOf
          simp [hg1, hg2, hg3])
        have hlt' : d < a.tmps.size := by rw [g3, ← (hrun.len j (by omega)).2]; exact nthD_lt rfl hg4
        exact ⟨a.tmps[d], by simp [hlt'], _, ν, _, _, w, by simpa [Array.getD_eq_getD_getElem?, hlt'] using hr⟩
      have hlen : (st j).obs.length = n0 + j := (hrun.len j (by omega)).1
      have hnone : obsS n0 (obF (st m).obs) (Sl L) (n0 + j) = none := by
        have : n0 + j - n0 = j := by omega
        unfold obsS
        rw [if_neg]
        simp [this, h2]
      unfold wpOp
      have hoa : ops.toArray[j]? = some o := by simpa using ho
      simp only [hoa]
      rcases hway with ⟨hy, hS, _⟩ | ⟨hy, e1, e2⟩
      · rw [hwant _ hy]
        simp only [if_true]
        refine .inl ?_
        rw [hlen] at hS
        refine hS M0 b0 ν (obsS n0 (obF (st m).obs) (Sl L)) (domS n0 (Sl L)) w a o rfl hg (fun id ob hob => ?_) (fun id ob hob => ?_) (fun x hx => ?_) hnone (domS_not h2) _ _ fun v w' ν' hL hG hR => hnext ν' w' v hL hG hR
        · unfold obsS at hob
          split at hob
          · assumption
          · cases hob
        · unfold maskOf at hob
          cases hb1 : decide (id < n0) || b.testBit (id - n0)
          · rw [hb1] at hob; cases hob
          · rw [hb1] at hob
            simp only [cond_true] at hob
            have hid := obF_lt (obs := (st j).obs) hob
            rw [hlen] at hid
            have hSb : (decide (id < n0) || Sl L (id - n0)) = true := by
              simp only [Bool.or_eq_true, decide_eq_true_eq] at hb1 ⊢
              rcases hb1 with hb1 | hb1
              · exact .inl hb1
              · refine .inr (hrdy _ ?_)
                rw [nthD_eq, List.getD_eq_getElem?_getD, hb]
                exact hb1
            unfold obsS
            rw [if_pos hSb, hrun.obs m (by omega) (Nat.le_refl _) id hid]
            exact hob
        · refine evA_rep_at x fun t e => ?_
          subst e
          exact hread t (by unfold readsOf; exact List.mem_append_left _ (opTmps_mem hx))
      · rw [hwant _ hy]
        simp only [Bool.false_eq_true, if_false]
        subst e1 e2
        obtain ⟨hL, hG⟩ := hg.same hnone (Below.refl _ w)
        exact hnext ν w undef hL hG rfl

theorem agree_drew (M : Nat → Prop) (w : World) : Agree M w w.drew := Agree.of_below (M := M) (Below.refl _ w).drew

theorem Matches.drew {M0 : Nat → Prop} {b0 : Nat → Prop} {w0 : World} {s : St} {a : Act} {w : World} (h : Matches M0 b0 w0 nt s a w) : Matches M0 b0 w0 nt s a w.drew := by
  obtain ⟨h1, h2, h3, hn3, ν, hw, hg, hr⟩ := h
  refine ⟨h1, h2.drew, h3, hn3, ν, hw, ⟨hg.m0, hg.hb, fun id ob ho => ?_, hg.ne⟩, fun t => ?_⟩
  · obtain ⟨q1, q2, xs, q3, q4⟩ := hg.ob id ob ho
    exact ⟨q1, q2, xs, q3, q4.next (agree_drew _ w) (fun b _ hb => hb)⟩
  · have := hr t
    generalize nthD .bad s.fr t = av at this ⊢
    cases av with
    | val t x => exact RepV.next (agree_drew _ w) (fun b _ hb => hb) this
    | tup l =>
      obtain ⟨vs, e, h1, h2⟩ := this
      exact ⟨vs, e, h1, fun i d hi => by
        obtain ⟨u, hu, hr⟩ := h2 i d hi
        exact ⟨u, hu, RepV.next (agree_drew _ w) (fun b _ hb => hb) hr⟩⟩
    | mem t x =>
      obtain ⟨h0, a, cs, e, h1, h2, h3, h4⟩ := this
      exact ⟨h0, a, cs, e, h1, h2, Rep.next (agree_drew _ w) (fun b _ hb => hb) t x cs h3, h4⟩
    | _ => exact this

theorem region_any {E : Env X} (hty : ∀ T ti, E.ty T = some ti → TyOk P T ti) (hfn : FnsOk P E) (hmix : P.follows .mixedOrders = true) {id : Nat} {ops : Array Oper} {s : St} {K : St → Option R} {r : R} (h : regionK E ops.toList true s K = some r)
    {M0 : Nat → Prop} {b0 : Nat → Prop} {w0 : World} {a : Act} {w : World} (hm : Matches M0 b0 w0 nt s a w) {Q : Exit → Act → World → Prop} (hQ : ∀ s' a' w', K s' = some r → Matches M0 b0 w0 nt s' a' w' → Q .normal a' w') : (Code.region id ops true).wp P Q a w := by
  unfold regionK at h
  simp only [force_eq, cond_true] at h
  cases hdr : drawOk E ops.toList
  · rw [hdr] at h; cases h
  · rw [hdr] at h
    simp only [cond_true] at h
    have hd := drawOk_spec hdr
    let Q' : Exit → Act → World → Prop := fun e a w => e = .normal ∧ Q .normal a w
    refine wp_mono (Q' := Q) (Q := Q') (wp_region_any hmix ?_) (fun e a w h => by rw [h.1]; exact h.2)
    have hQ' : ∀ s' a' w', K s' = some r → Matches M0 b0 w0 nt s' a' w' → Q' .normal a' w' := fun s' a' w' h1 h2 => ⟨rfl, hQ s' a' w' h1 h2⟩
    have hm1 := freeze_sound (consOps E ops.toList) s hm.drew
    obtain ⟨st, h0, h1, h2⟩ := free_steps hty hfn ops.toList (befores ops.toList []) _ (by rw [befores_length]) h
    have hrun : Run P ops.toList (freeLen E ops.toList) (freeze s (consOps E ops.toList)).obs.length st := ⟨by rw [h0], h2⟩
    have hI := dinv_start hrun (M0 := M0) (b0 := b0) (w0 := w0) (a := a) (w := { w with drawn := w.drawn + 1 }) (by rw [h0]; exact hm1)
    have hSl : Sl (Array.replicate ops.size false) = fun _ => false := by
      funext i
      simp only [Sl, Array.getD_eq_getD_getElem?, Array.getElem?_replicate]
      split <;> rfl
    have := head_any hty hfn hd hrun (Q := Q') (fun c a w h => by cases h.1) hQ' h1 ops.size (Array.replicate ops.size false) a { w with drawn := w.drawn + 1 } (by simp) (by
        rw [hSl]
        have : ∀ n, unl (fun _ => false) n = n := by
          intro n
          induction n with
          | zero => rfl
          | succ n ih => simp [unl, ih]
        rw [this]
        simp) (by rw [hSl]; intro i hi; cases hi) (by rw [hSl]; intro i hi; cases hi) (by rw [hSl]; exact hI)
    simpa using this

theorem region_sound {E : Env X} (hty : ∀ T ti, E.ty T = some ti → TyOk P T ti) (hfn : FnsOk P E) (hmix : P.follows .mixedOrders = true) {id : Nat} {ops : Array Oper} {draw : Bool} {s : St} {K : St → Option R} {r : R} (h : regionK E ops.toList draw s K = some r)
    {M0 : Nat → Prop} {b0 : Nat → Prop} {w0 : World} {a : Act} {w : World} (hm : Matches M0 b0 w0 nt s a w) {Q : Exit → Act → World → Prop} (hQ : ∀ s' a' w', K s' = some r → Matches M0 b0 w0 nt s' a' w' → Q .normal a' w') : (Code.region id ops draw).wp P Q a w := by
  cases draw
  · exact region_seq hty hfn h hm hQ
  · exact region_any hty hfn hmix h hm hQ

end Go.FK
