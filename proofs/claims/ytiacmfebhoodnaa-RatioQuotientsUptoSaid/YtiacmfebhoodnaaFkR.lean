/- A region whose order is open: every order ends as the text's. -/
import Derived.Test.YtiacmfebhoodnaaFkQ
namespace Go.FK
open Go.RowKit

variable {P : Program} {X R : Type} {nt : Nat × List Value}

/-! ### The steps' frames and objects -/
structure Run (P : Program) (ops : List Oper) (m n0 : Nat) (st : Nat → St) : Prop where
  start : (st 0).obs.length = n0
  step : ∀ j, j < m → ∃ o b, ops[j]? = some o ∧ (befores ops [])[j]? = some b ∧ StepOk P ops n0 o b (st j) (st (j + 1))

theorem length_put (l : List AV) (d : Option Tmp) (v : AV) : (put l d v).length = l.length := by
  cases d <;> simp [put, length_setN]

theorem Run.len {ops : List Oper} {m n0 : Nat} {st : Nat → St} (h : Run P ops m n0 st) : ∀ j, j ≤ m → (st j).obs.length = n0 + j ∧ (st j).fr.length = (st 0).fr.length
  | 0, _ => ⟨by simpa using h.start, rfl⟩
  | j + 1, hj => by
    obtain ⟨o, b, _, _, av, nob, e, _⟩ := h.step j (by omega)
    have := h.len j (by omega)
    rw [e]
    exact ⟨by simp [this.1]; omega, by simp [length_put, this.2]⟩

theorem Run.obs {ops : List Oper} {m n0 : Nat} {st : Nat → St} (h : Run P ops m n0 st) {j : Nat} : ∀ k, j ≤ k → k ≤ m → ∀ id, id < n0 + j → obF (st k).obs id = obF (st j).obs id := by
  intro k
  induction k with
  | zero => intro hj _ id _; have : j = 0 := by omega
            subst this; rfl
  | succ k ih =>
    intro hj hk id hid
    rcases Nat.lt_or_ge k j with h' | h'
    · have : j = k + 1 := by omega
      subst this; rfl
    · rw [← ih h' (by omega) id hid]
      obtain ⟨o, b, _, _, av, nob, e, _⟩ := h.step k (by omega)
      have hl := (h.len k (by omega)).1
      rw [e]
      simp only [obF_snoc, upd]
      rw [if_neg (by omega)]

theorem nthD_put {l : List AV} {d : Option Tmp} {v : AV} {t : Tmp} (h : d ≠ some t) : nthD .bad (put l d v) t = nthD .bad l t := by
  cases d with
  | none => rfl
  | some u =>
    simp only [put]
    rw [nthD_setN, if_neg]
    rintro ⟨e, _⟩
    exact h (by rw [e])

theorem Run.fr {ops : List Oper} {m n0 : Nat} {st : Nat → St} (h : Run P ops m n0 st) {t : Tmp} {j : Nat} : ∀ k, j ≤ k → k ≤ m → (∀ i o, j ≤ i → i < k → ops[i]? = some o → o.dst ≠ some t) → nthD .bad (st k).fr t = nthD .bad (st j).fr t := by
  intro k
  induction k with
  | zero => intro hj _ _; have : j = 0 := by omega
            subst this; rfl
  | succ k ih =>
    intro hj hk hn
    rcases Nat.lt_or_ge k j with h' | h'
    · have : j = k + 1 := by omega
      subst this; rfl
    · rw [← ih h' (by omega) fun i o h1 h2 h3 => hn i o h1 (by omega) h3]
      obtain ⟨o, b, ho, _, av, nob, e, _⟩ := h.step k (by omega)
      rw [e]
      exact nthD_put (hn k o h' (by omega) ho)

/-! ### The invariant while some of them are done -/
def obsS (n0 : Nat) (obs : Obs) (S : Nat → Bool) : Obs := fun id => if (decide (id < n0) || S (id - n0)) = true then obs id else none
def domS (n0 : Nat) (S : Nat → Bool) : Nat → Prop := fun id => (decide (id < n0) || S (id - n0)) = true

def DInv (ops : List Oper) (m n0 : Nat) (st : Nat → St) (M0 : Nat → Prop) (b0 : Nat → Prop) (w0 : World) (nt : Nat × List Value) (S : Nat → Bool) (a : Act) (w : World) : Prop :=
  a.defers = [] ∧ Beyond b0 w0 w ∧ a.tmps.size = (st 0).fr.length ∧ a.tmps.size = nt.1 ∧ ∃ ν, Rows nt.2 ν n0 ∧ Good M0 b0 ν (obsS n0 (obF (st m).obs) S) w ∧ ∀ t,
    (∀ i o, i < m → ops[i]? = some o → o.dst = some t → S i = true → RepA (Msum M0 ν (obsS n0 (obF (st m).obs) S)) ν (domS n0 S) (obsS n0 (obF (st m).obs) S) w (nthD .bad (st (i + 1)).fr t) (a.tmps.getD t undef)) ∧
    ((∀ i o, i < m → ops[i]? = some o → o.dst = some t → S i = false) → RepA (Msum M0 ν (obsS n0 (obF (st m).obs) S)) ν (domS n0 S) (obsS n0 (obF (st m).obs) S) w (nthD .bad (st 0).fr t) (a.tmps.getD t undef))

theorem obsS_step {n0 j : Nat} {obs : Obs} {S : Nat → Bool} : obsS n0 obs (fun i => i == j || S i) = upd (obsS n0 obs S) (n0 + j) (obs (n0 + j)) := by
  funext id
  simp only [obsS, upd]
  by_cases h : id = n0 + j
  · subst h
    have : n0 + j - n0 = j := by omega
    simp [this]
  · rw [if_neg h]
    by_cases h' : id < n0
    · simp [h']
    · have : (id - n0 == j) = false := by simp; omega
      simp [this]

theorem domS_step {n0 j : Nat} {S : Nat → Bool} : domS n0 (fun i => i == j || S i) = fun id => domS n0 S id ∨ id = n0 + j := by
  funext id
  apply propext
  simp only [domS, Bool.or_eq_true, decide_eq_true_eq, beq_iff_eq]
  constructor
  · rintro (h | h | h)
    · exact .inl (.inl h)
    · rcases Nat.lt_or_ge id n0 with h' | h'
      · exact .inl (.inl h')
      · exact .inr (by omega)
    · exact .inl (.inr h)
  · rintro ((h | h) | h)
    · exact .inl h
    · exact .inr (.inr h)
    · exact .inr (.inl (by omega))

theorem domS_not {n0 j : Nat} {S : Nat → Bool} (h : S j = false) : ¬ domS n0 S (n0 + j) := by
  have : n0 + j - n0 = j := by omega
  simp [domS, this, h]

theorem dinv_step {ops : List Oper} {m n0 : Nat} {st : Nat → St} (hd : Draw ops m) (hr : Run P ops m n0 st) {M0 : Nat → Prop} {b0 : Nat → Prop} {w0 : World} {S : Nat → Bool} {a : Act} {w : World} {j : Nat} (hj : j < m) (hs : S j = false) {o : Oper} (ho : ops[j]? = some o)
    {ν ν' : Nat → Value} {w' : World} {v : Value} {av : AV} {nob : Option Ob} (hst : st (j + 1) = ⟨put (st j).fr o.dst av, (st j).obs ++ [nob]⟩)
    (h1 : a.defers = []) (h2 : Beyond b0 w0 w) (h3 : a.tmps.size = (st 0).fr.length) (hn3 : a.tmps.size = nt.1) (hw : Rows nt.2 ν n0) (hg : Good M0 b0 ν (obsS n0 (obF (st m).obs) S) w)
    (h4 : ∀ t, (∀ i o, i < m → ops[i]? = some o → o.dst = some t → S i = true → RepA (Msum M0 ν (obsS n0 (obF (st m).obs) S)) ν (domS n0 S) (obsS n0 (obF (st m).obs) S) w (nthD .bad (st (i + 1)).fr t) (a.tmps.getD t undef)) ∧
      ((∀ i o, i < m → ops[i]? = some o → o.dst = some t → S i = false) → RepA (Msum M0 ν (obsS n0 (obF (st m).obs) S)) ν (domS n0 S) (obsS n0 (obF (st m).obs) S) w (nthD .bad (st 0).fr t) (a.tmps.getD t undef)))
    (hL : Later M0 (n0 + j) ν ν' (obsS n0 (obF (st m).obs) S) nob w w') (hG : Good M0 b0 ν' (upd (obsS n0 (obF (st m).obs) S) (n0 + j) nob) w')
    (hR : RepA (Msum M0 ν' (upd (obsS n0 (obF (st m).obs) S) (n0 + j) nob)) ν' (fun id => domS n0 S id ∨ id = n0 + j) (upd (obsS n0 (obF (st m).obs) S) (n0 + j) nob) w' av v) :
    DInv ops m n0 st M0 b0 w0 nt (fun i => i == j || S i) (a.put o.dst v) w' := by
  have hnob : obF (st m).obs (n0 + j) = nob := by
    rw [hr.obs m hj (Nat.le_refl _) (n0 + j) (by omega), hst]
    simp only [obF_snoc, upd]
    rw [if_pos (by rw [(hr.len j (by omega)).1])]
  have e1 : obsS n0 (obF (st m).obs) (fun i => i == j || S i) = upd (obsS n0 (obF (st m).obs) S) (n0 + j) nob := by rw [obsS_step, hnob]
  have hkeep : ∀ {x : AV} {u : Value}, RepA (Msum M0 ν (obsS n0 (obF (st m).obs) S)) ν (domS n0 S) (obsS n0 (obF (st m).obs) S) w x u →
      RepA (Msum M0 ν' (upd (obsS n0 (obF (st m).obs) S) (n0 + j) nob)) ν' (fun id => domS n0 S id ∨ id = n0 + j) (upd (obsS n0 (obF (st m).obs) S) (n0 + j) nob) w' x u := fun h => h.later hL (domS_not hs)
  refine ⟨by cases h : o.dst <;> simpa [Act.put, h] using h1, h2.trans (Beyond.of_below hL.below hg.hb), by cases h : o.dst <;> simpa [Act.put, h] using h3, by cases h : o.dst <;> simpa [Act.put, h] using hn3, ν', hw.next (Nat.le_refl _) (fun j hj => hL.nu j (by omega)), ?_⟩
  rw [e1, domS_step]
  refine ⟨hG, fun t => ?_⟩
  by_cases hdt : o.dst = some t
  · -- the slot just written
    have hval : RepA (Msum M0 ν' (upd (obsS n0 (obF (st m).obs) S) (n0 + j) nob)) ν' (fun id => domS n0 S id ∨ id = n0 + j) (upd (obsS n0 (obF (st m).obs) S) (n0 + j) nob) w' (nthD .bad (st (j + 1)).fr t) ((a.put o.dst v).tmps.getD t undef) := by
      rw [hst, hdt]
      simp only [put, Act.put]
      rw [nthD_setN]
      by_cases hlt : t < (st j).fr.length
      · rw [if_pos ⟨rfl, hlt⟩]
        have hlt' : t < a.tmps.size := by rw [h3, ← (hr.len j (by omega)).2]; exact hlt
        have : (a.tmps.setIfInBounds t v).getD t undef = v := by simp [Array.getD_eq_getD_getElem?, hlt']
        rw [this]
        exact hR
      · rw [if_neg (fun h => hlt h.2)]
        have : nthD AV.bad (st j).fr t = .bad := by rw [nthD_eq, List.getD_eq_getElem?_getD, List.getElem?_eq_none (Nat.le_of_not_lt hlt)]; rfl
        rw [this]
        trivial
    refine ⟨fun i p hi hp hpd _ => ?_, fun hall => ?_⟩
    · have : i = j := hd.one i j p o t hi hj hp ho hpd hdt
      subst this
      exact hval
    · have := hall j o hj ho hdt
      simp at this
  · have hcell : (a.put o.dst v).tmps.getD t undef = a.tmps.getD t undef := by
      cases h : o.dst with
      | none => rfl
      | some u =>
        have hne : u ≠ t := fun e => hdt (by rw [h, e])
        simp [Act.put, Array.getD_eq_getD_getElem?, Array.getElem?_setIfInBounds_ne hne]
    rw [hcell]
    refine ⟨fun i p hi hp hpd hsi => ?_, fun hall => ?_⟩
    · have hij : (i == j) = false := by
        simp only [beq_eq_false_iff_ne]
        intro e
        subst e
        rw [ho] at hp
        cases hp
        exact hdt hpd
      simp only [hij, Bool.false_or] at hsi
      exact hkeep ((h4 t).1 i p hi hp hpd hsi)
    · refine hkeep ((h4 t).2 fun i p hi hp hpd => ?_)
      have := hall i p hi hp hpd
      simp only [Bool.or_eq_false_iff] at this
      exact this.2

/-- What the step's operation reads, it reads as in the text's order. -/
theorem dinv_read {ops : List Oper} {m n0 : Nat} {st : Nat → St} (hd : Draw ops m) (hr : Run P ops m n0 st) {M0 : Nat → Prop} {S : Nat → Bool} {a : Act} {w : World} {j : Nat} (hj : j < m) (hs : S j = false) {o : Oper} (ho : ops[j]? = some o)
    (hrdy : ∀ i, (nthD 0 (befores ops []) j).testBit i = true → S i = true) (hcl : ∀ i, i < m → S i = true → ∀ k, (nthD 0 (befores ops []) i).testBit k = true → S k = true) {ν : Nat → Value}
    (h4 : ∀ t, (∀ i o, i < m → ops[i]? = some o → o.dst = some t → S i = true → RepA (Msum M0 ν (obsS n0 (obF (st m).obs) S)) ν (domS n0 S) (obsS n0 (obF (st m).obs) S) w (nthD .bad (st (i + 1)).fr t) (a.tmps.getD t undef)) ∧
      ((∀ i o, i < m → ops[i]? = some o → o.dst = some t → S i = false) → RepA (Msum M0 ν (obsS n0 (obF (st m).obs) S)) ν (domS n0 S) (obsS n0 (obF (st m).obs) S) w (nthD .bad (st 0).fr t) (a.tmps.getD t undef)))
    {t : Tmp} (ht : t ∈ readsOf ops o) : RepA (Msum M0 ν (obsS n0 (obF (st m).obs) S)) ν (domS n0 S) (obsS n0 (obF (st m).obs) S) w (nthD .bad (st j).fr t) (a.tmps.getD t undef) := by
  by_cases hex : ∃ i p, i < m ∧ ops[i]? = some p ∧ p.dst = some t
  · obtain ⟨i, p, hi, hp, hpd⟩ := hex
    rcases hd.reads i j p o t hi hj hp ho hpd ht with ⟨h1, h2⟩ | ⟨h1, h2⟩
    · have := (h4 t).1 i p hi hp hpd (hrdy i h2)
      rwa [← hr.fr j h1 (by omega) fun k q h5 h6 hq e => by
        have := hd.one i k p q t hi (by omega) hp hq hpd e
        omega] at this
    · have hSi : S i = false := by
        cases h : S i with
        | false => rfl
        | true => have := hcl i hi h j h2
                  rw [hs] at this; cases this
      have := (h4 t).2 fun k q hk hq e => by
        have := hd.one i k p q t hi hk hp hq hpd e
        rw [← this]; exact hSi
      rwa [← hr.fr j (Nat.zero_le _) (by omega) fun k q h5 h6 hq e => by
        have := hd.one i k p q t hi (by omega) hp hq hpd e
        omega] at this
  · have := (h4 t).2 fun k q hk hq e => absurd ⟨k, q, hk, hq, e⟩ hex
    rwa [← hr.fr j (Nat.zero_le _) (by omega) fun k q h5 h6 hq e => hex ⟨k, q, by omega, hq, e⟩] at this

theorem dinv_start {ops : List Oper} {m n0 : Nat} {st : Nat → St} (hr : Run P ops m n0 st) {M0 : Nat → Prop} {b0 : Nat → Prop} {w0 : World} {a : Act} {w : World} (hm : Matches M0 b0 w0 nt (st 0) a w) : DInv ops m n0 st M0 b0 w0 nt (fun _ => false) a w := by
  obtain ⟨h1, h2, h3, hn3, ν, hw, hg, h4⟩ := hm
  have e1 : obsS n0 (obF (st m).obs) (fun _ => false) = obF (st 0).obs := by
    funext id
    simp only [obsS, Bool.or_false, decide_eq_true_eq]
    split
    · rename_i h
      exact hr.obs m (Nat.zero_le _) (Nat.le_refl _) id (by simpa using h)
    · rename_i h
      cases hx : obF (st 0).obs id with
      | none => rfl
      | some ob => have := obF_lt hx
                   have := hr.start
                   omega
  have e2 : domS n0 (fun _ => false) = (· < (st 0).obs.length) := by
    funext id
    simp [domS, hr.start]
  refine ⟨h1, h2, h3, hn3, ν, by rw [← hr.start]; exact hw, ?_⟩
  rw [e1, e2]
  exact ⟨hg, fun t => ⟨fun i o _ _ _ h => by simp at h, fun _ => h4 t⟩⟩

theorem dinv_end {ops : List Oper} {m n0 : Nat} {st : Nat → St} (hd : Draw ops m) (hr : Run P ops m n0 st) {M0 : Nat → Prop} {b0 : Nat → Prop} {w0 : World} {S : Nat → Bool} {a : Act} {w : World} (hS : ∀ i, S i = true ↔ i < m) (h : DInv ops m n0 st M0 b0 w0 nt S a w) :
    Matches M0 b0 w0 nt (st m) a w := by
  obtain ⟨h1, h2, h3, hn3, ν, hw, hg, h4⟩ := h
  have hl := hr.len m (Nat.le_refl _)
  have e1 : obsS n0 (obF (st m).obs) S = obF (st m).obs := by
    funext id
    simp only [obsS, Bool.or_eq_true, decide_eq_true_eq, hS]
    split
    · rfl
    · rename_i h
      cases hx : obF (st m).obs id with
      | none => rfl
      | some ob => have := obF_lt hx
                   omega
  have e2 : domS n0 S = (· < (st m).obs.length) := by
    funext id
    apply propext
    simp only [domS, Bool.or_eq_true, decide_eq_true_eq, hS, hl.1]
    omega
  rw [e1, e2] at h4
  rw [e1] at hg
  refine ⟨h1, h2, by rw [h3, hl.2], hn3, ν, hw.next (by omega) (fun _ _ => rfl), hg, fun t => ?_⟩
  by_cases hex : ∃ i p, i < m ∧ ops[i]? = some p ∧ p.dst = some t
  · obtain ⟨i, p, hi, hp, hpd⟩ := hex
    have := (h4 t).1 i p hi hp hpd ((hS i).2 hi)
    rwa [← hr.fr m hi (Nat.le_refl _) fun k q h5 h6 hq e => by
      have := hd.one i k p q t hi (by omega) hp hq hpd e
      omega] at this
  · have := (h4 t).2 fun k q hk hq e => absurd ⟨k, q, hk, hq, e⟩ hex
    rwa [← hr.fr m (Nat.zero_le _) (Nat.le_refl _) fun k q h5 h6 hq e => hex ⟨k, q, by omega, hq, e⟩] at this

end Go.FK
