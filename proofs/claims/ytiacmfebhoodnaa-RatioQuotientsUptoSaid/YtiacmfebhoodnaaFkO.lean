/- Statements: a state that a frame and a world match; objects that become data; a statement whose order is fixed. -/
import Derived.Test.YtiacmfebhoodnaaFkN
namespace Go.FK
open Go.RowKit

variable {P : Program} {X R : Type} {nt : Nat × List Value}

def FnsOk (P : Program) (E : Env X) : Prop := (∀ f fs, E.fn f = some fs → Contract P f fs) ∧ (∀ f fw, E.fw f = some fw → ContractW P f fw) ∧ ∀ f fg, E.fg f = some fg → ContractG P f fg

/-- The rows that are the caller's. -/
def Rows (ro : List Value) (ν : Nat → Value) (n : Nat) : Prop := ∀ j v, ro[j]? = some v → j < n ∧ ν j = v

theorem Rows.next {ro : List Value} {ν ν' : Nat → Value} {n n' : Nat} (h : Rows ro ν n) (hn : n ≤ n') (hν : ∀ j, j < n → ν' j = ν j) : Rows ro ν' n' := fun j v hj => by
  obtain ⟨h1, h2⟩ := h j v hj
  exact ⟨by omega, by rw [hν j h1]; exact h2⟩

def Matches (M0 : Nat → Prop) (b0 : Nat → Prop) (w0 : World) (nt : Nat × List Value) (s : St) (a : Act) (w : World) : Prop :=
  a.defers = [] ∧ Beyond b0 w0 w ∧ a.tmps.size = s.fr.length ∧ a.tmps.size = nt.1 ∧ ∃ ν, Rows nt.2 ν s.obs.length ∧ Good M0 b0 ν (obF s.obs) w ∧ ∀ t, RepA (Msum M0 ν (obF s.obs)) ν (· < s.obs.length) (obF s.obs) w (nthD .bad s.fr t) (a.tmps.getD t undef)

theorem RepA.mono {M M' : Nat → Prop} {ν : Nat → Value} {dom : Nat → Prop} {obs obs' : Obs} {w : World} (hM : ∀ b, M' b → M b) (ho : ∀ id ob, obs' id = some ob → obs id = some ob) {av : AV} {v : Value} (h : RepA M ν dom obs w av v) : RepA M' ν dom obs' w av v := by
  cases av with
  | bad => trivial
  | und => exact h
  | nil => exact h
  | val t x => exact RepV.next (Agree.refl _ _) (fun b _ hb => hM b hb) h
  | tup l =>
    obtain ⟨vs, e, h1, h2⟩ := h
    exact ⟨vs, e, h1, fun i d hi => by
      obtain ⟨u, hu, hr⟩ := h2 i d hi
      exact ⟨u, hu, RepV.next (Agree.refl _ _) (fun b _ hb => hM b hb) hr⟩⟩
  | own id => exact h
  | ptr id ix p => exact ⟨h.1, fun ob hob => h.2 ob (ho id ob hob)⟩
  | win id lo n => exact ⟨h.1, fun ob hob => h.2 ob (ho id ob hob)⟩
  | mem t x =>
    obtain ⟨h0, a, cs, e, h1, h2, h3, h4⟩ := h
    exact ⟨h0, a, cs, e, h1, fun hm => h2 (hM _ hm), Rep.next (Agree.refl _ _) (fun b _ hb => hM b hb) t x cs h3, h4⟩
  | fn f => exact h

theorem nthD_map (f : AV → AV) (hf : f .bad = .bad) : ∀ (l : List AV) (n : Nat), nthD .bad (l.map f) n = f (nthD .bad l n)
  | [], _ => by simp [nthD, hf]
  | _ :: _, 0 => rfl
  | _ :: xs, n + 1 => nthD_map f hf xs n

theorem freeze_one {M0 : Nat → Prop} {b0 : Nat → Prop} {w0 : World} {s : St} {a : Act} {w : World} (h : Matches M0 b0 w0 nt s a w) {id : Nat} {ob : Ob} (ho : nthD none s.obs id = some ob) :
    Matches M0 b0 w0 nt ⟨s.fr.map (frzA id ob), setN none s.obs id⟩ a w := by
  obtain ⟨h1, h2, h3, hn3, ν, hw, hg, hr⟩ := h
  have hobF : obF s.obs id = some ob := ho
  have hlt := obF_lt hobF
  have hF : obF (setN none s.obs id) = upd (obF s.obs) id none := obF_set _ _ _ hlt
  have hsub : ∀ j oj, upd (obF s.obs) id none j = some oj → obF s.obs j = some oj := by
    intro j oj hj
    unfold upd at hj
    split at hj
    · cases hj
    · exact hj
  have hM : ∀ b, Msum M0 ν (upd (obF s.obs) id none) b → Msum M0 ν (obF s.obs) b := by
    rintro b (hm | ⟨j, oj, hj, hb⟩)
    · exact .inl hm
    · exact .inr ⟨j, oj, hsub j oj hj, hb⟩
  refine ⟨h1, h2, by simpa using h3, hn3, ν, hw.next (by simp [length_setN]) (fun _ _ => rfl), ?_, fun t => ?_⟩
  · show Good M0 b0 ν (obF (setN none s.obs id)) w
    rw [hF]
    refine ⟨hg.m0, hg.hb, fun j oj hj => ?_, fun i j oi oj hi hj hij => hg.ne i j oi oj (hsub i oi hi) (hsub j oj hj) hij⟩
    obtain ⟨q1, q2, xs, q3, q4⟩ := hg.ob j oj (hsub j oj hj)
    exact ⟨q1, q2, xs, q3, q4.next (Agree.refl _ _) (fun b _ hb => hM b hb)⟩
  · show RepA (Msum M0 ν (obF (setN none s.obs id))) ν (· < (setN none s.obs id).length) (obF (setN none s.obs id)) w (nthD .bad (s.fr.map (frzA id ob)) t) _
    rw [hF, length_setN, nthD_map _ rfl]
    have := (hr t).mono hM hsub
    generalize nthD .bad s.fr t = av at this ⊢
    cases av with
    | own i =>
      simp only [frzA]
      split
      · rename_i e
        subst e
        obtain ⟨_, hv⟩ := this
        rw [hv]
        obtain ⟨q1, q2, xs, q3, q4⟩ := hg.ob i ob hobF
        refine ⟨by simpa [Ty.ok] using q1, [ν i], RepRow.list q3.1 (q4.next (Agree.refl _ _) (fun b _ hb => hM b hb)) (fun b hb hm => ?_), by simp [ofCells, Ty.isSt]⟩
        rcases hm with hm | ⟨j, oj, hj, hbj⟩
        · exact hg.m0 b hm (q3.2 b hb)
        · have hne : j ≠ i := by intro e; subst e; simp [upd] at hj
          exact hg.ne i j ob oj hobF (hsub j oj hj) (fun e => hne e.symm) b hb hbj
      · exact this
    | _ => exact this

theorem freeze_sound {M0 : Nat → Prop} {b0 : Nat → Prop} {w0 : World} {a : Act} {w : World} : ∀ (ts : List Tmp) (s : St), Matches M0 b0 w0 nt s a w → Matches M0 b0 w0 nt (freeze s ts) a w
  | [], _, h => h
  | t :: ts, s, h => by
    unfold freeze
    split
    · split
      · rename_i ob ho
        exact freeze_sound ts _ (freeze_one h ho)
      · exact freeze_sound ts s h
    · exact freeze_sound ts s h

/-- A temporary takes a value. -/
theorem put_matches {M0 : Nat → Prop} {b0 : Nat → Prop} {w0 w : World} {a : Act} {fr : List AV} {obs : List (Option Ob)} {ν : Nat → Value} (h1 : a.defers = []) (h2 : Beyond b0 w0 w) (h3 : a.tmps.size = fr.length) (hn3 : a.tmps.size = nt.1) (hw : Rows nt.2 ν obs.length) (hg : Good M0 b0 ν (obF obs) w)
    (hr : ∀ t, RepA (Msum M0 ν (obF obs)) ν (· < obs.length) (obF obs) w (nthD .bad fr t) (a.tmps.getD t undef)) (dst : Option Tmp) {av : AV} {v : Value} (hv : RepA (Msum M0 ν (obF obs)) ν (· < obs.length) (obF obs) w av v) :
    Matches M0 b0 w0 nt ⟨put fr dst av, obs⟩ (a.put dst v) w := by
  cases dst with
  | none => exact ⟨h1, h2, h3, hn3, ν, hw, hg, hr⟩
  | some d =>
    refine ⟨h1, h2, by simp [put, Act.put, length_setN, h3], by simp [Act.put, hn3], ν, hw, hg, fun t => ?_⟩
    show RepA _ _ _ _ _ (nthD .bad (setN av fr d) t) ((a.tmps.setIfInBounds d v).getD t undef)
    rw [nthD_setN]
    by_cases e : d = t
    · subst e
      by_cases hlt : d < fr.length
      · rw [if_pos ⟨rfl, hlt⟩]
        have : (a.tmps.setIfInBounds d v).getD d undef = v := by simp [Array.getD_eq_getD_getElem?, h3, hlt]
        rw [this]
        exact hv
      · rw [if_neg (fun h => hlt h.2)]
        have : nthD AV.bad fr d = .bad := by rw [nthD_eq, List.getD_eq_getElem?_getD, List.getElem?_eq_none (Nat.le_of_not_lt hlt)]; rfl
        rw [this]
        trivial
    · rw [if_neg (fun h => e h.1)]
      have : (a.tmps.setIfInBounds d v).getD t undef = a.tmps.getD t undef := by simp [Array.getD_eq_getD_getElem?, Array.getElem?_setIfInBounds_ne e]
      rw [this]
      exact hr t

theorem evA_rep {M : Nat → Prop} {ν : Nat → Value} {dom : Nat → Prop} {obs : Obs} {w : World} {a : Act} {fr : List AV} (hr : ∀ t, RepA M ν dom obs w (nthD .bad fr t) (a.tmps.getD t undef)) (x : Operand) : RepA M ν dom obs w (evA fr x) (a.eval x) := by
  cases x with
  | tmp t => exact hr t
  | const v => exact cv_rep _ _ _ _ _ _
  | global g => trivial
  | func f => rfl

theorem free_step {E : Env X} (hty : ∀ T ti, E.ty T = some ti → TyOk P T ti) (hfn : FnsOk P E) {cons : Bool} {s : St} {o : Oper} {K : AV → Option Ob → Option R} {r : R}
    {obsm : Obs} (hmask : ∀ id ob, obsm id = some ob → obF s.obs id = some ob) (h : freeK E s.obs.length cons obsm (evA s.fr) o.op K = some r) {M0 : Nat → Prop} {b0 : Nat → Prop} {w0 w : World} {a : Act} (hm : Matches M0 b0 w0 nt s a w) {next : Act → World → Prop} {Q : Exit → Act → World → Prop}
    (hn : ∀ av nob a' w', K av nob = some r → Matches M0 b0 w0 nt ⟨put s.fr o.dst av, s.obs ++ [nob]⟩ a' w' → next a' w') : o.wp P a w next Q := by
  obtain ⟨h1, h2, h3, hn3, ν, hw, hg, hr⟩ := hm
  obtain ⟨av, nob, hK, hS⟩ := free_sound hty hfn.1 hfn.2.1 h
  have hnone : obF s.obs s.obs.length = none := by
    cases hx : obF s.obs s.obs.length with
    | none => rfl
    | some ob => exact absurd (obF_lt hx) (Nat.lt_irrefl _)
  refine hS M0 b0 ν (obF s.obs) (· < s.obs.length) w a o rfl hg (fun id ob ho => obF_lt ho) hmask (fun x _ => evA_rep hr x) hnone (Nat.lt_irrefl _) next Q fun v w' ν' hL hG hrep => ?_
  refine hn av nob _ w' hK ?_
  have hdom : (fun id => id < s.obs.length ∨ id = s.obs.length) = (· < (s.obs ++ [nob]).length) := by
    funext id
    apply propext
    simp
    omega
  have hb : Beyond b0 w0 w' := h2.trans (Beyond.of_below hL.below hg.hb)
  have hF := obF_snoc s.obs nob
  have hkeep : ∀ t, RepA (Msum M0 ν' (obF (s.obs ++ [nob]))) ν' (· < (s.obs ++ [nob]).length) (obF (s.obs ++ [nob])) w' (nthD .bad s.fr t) (a.tmps.getD t undef) := by
    intro t
    have := RepA.later (dom := (· < s.obs.length)) hL (Nat.lt_irrefl _) (hr t)
    rw [hF, ← hdom]
    exact this
  exact put_matches h1 hb h3 hn3 (hw.next (by simp) (fun j hj => hL.nu j (Nat.ne_of_lt hj))) (by rw [hF]; exact hG) hkeep o.dst (by rw [hF, ← hdom]; exact hrep)

theorem eff_step {E : Env X} (hty : ∀ T ti, E.ty T = some ti → TyOk P T ti) (hfn : FnsOk P E) {cons : Bool} {s : St} {o : Oper} {K : AV → List (Option Ob) → Option R} {r : R}
    (h : effK E cons s.obs (evA s.fr) o.op K = some r) {M0 : Nat → Prop} {b0 : Nat → Prop} {w0 w : World} {a : Act} (hm : Matches M0 b0 w0 nt s a w) {next : Act → World → Prop} {Q : Exit → Act → World → Prop}
    (hn : ∀ av obs' a' w', K av obs' = some r → Matches M0 b0 w0 nt ⟨put s.fr o.dst av, obs'⟩ a' w' → next a' w') : o.wp P a w next Q := by
  obtain ⟨h1, h2, h3, hn3, ν, hw, hg, hr⟩ := hm
  obtain ⟨av, obs', hK, hlen, hS⟩ := eff_sound hty hfn.2.2 h
  refine hS M0 b0 ν w a o rfl hg (fun x _ => evA_rep hr x) next Q fun v w' ν' hA hrep => ?_
  refine hn av obs' _ w' hK ?_
  have hdom : (fun id => id < s.obs.length + 1) = (· < obs'.length) := by rw [hlen]
  exact put_matches h1 (h2.trans hA.below) h3 hn3 (hw.next (by rw [hlen]; omega) hA.nu) hA.good (fun t => by rw [← hdom]; exact hA.keep _ _ (hr t)) o.dst (by rw [← hdom]; exact hrep)

theorem yielded_some {ops : Array Oper} {tmps : Array Value} {j : Nat} {p : Oper} {d : Tmp} {v : Value} (hp : ops[j]? = some p) (hd : p.dst = some d) (hv : tmps[d]? = some v) : yielded ops tmps j = (match v with | .bool b => some b | _ => none) := by
  unfold yielded
  rw [hp]
  simp only [Option.bind_some, hd, hv]
  cases v <;> rfl

theorem lit_matches {M0 : Nat → Prop} {b0 : Nat → Prop} {w0 w : World} {a : Act} {s : St} (h : Matches M0 b0 w0 nt s a w) {d : Tmp} {b : Bool} (hd : nthD .bad s.fr d = .val .bool b) : Matches M0 b0 w0 nt ⟨setN (.val .bool b) s.fr d, s.obs⟩ a w := by
  obtain ⟨h1, h2, h3, hn3, ν, hw, hg, hr⟩ := h
  refine ⟨h1, h2, by simp [length_setN, h3], hn3, ν, hw, hg, fun t => ?_⟩
  show RepA _ _ _ _ _ (nthD .bad (setN (.val .bool b) s.fr d) t) _
  rw [nthD_setN]
  split
  · rename_i e
    rw [← e.1, ← hd]
    exact hr d
  · exact hr t

end Go.FK
