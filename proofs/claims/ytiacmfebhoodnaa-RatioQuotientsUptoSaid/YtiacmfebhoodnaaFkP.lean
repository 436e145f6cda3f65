/- A region, in the text's order: what the interpreter finds holds of the machine. -/
import Derived.Test.YtiacmfebhoodnaaFkO
namespace Go.FK
open Go.RowKit

variable {P : Program} {X R : Type} {nt : Nat × List Value}

theorem setN_self {z v : AV} : ∀ {l : List AV} {n : Nat}, nthD z l n = v → setN v l n = l
  | [], _, _ => rfl
  | x :: xs, 0, h => by simp only [nthD] at h; simp [setN, h]
  | x :: xs, n + 1, h => by simp only [nthD] at h; simp [setN, setN_self h]

theorem nthD_lt {l : List AV} {n : Nat} {v : AV} (h : nthD .bad l n = v) (hv : v ≠ .bad) : n < l.length := by
  rcases Nat.lt_or_ge n l.length with h' | h'
  · exact h'
  · rw [nthD_eq, List.getD_eq_getElem?_getD, List.getElem?_eq_none h'] at h
    exact absurd h.symm hv

theorem Matches.tmp {M0 : Nat → Prop} {b0 : Nat → Prop} {w0 : World} {s : St} {a : Act} {w : World} (h : Matches M0 b0 w0 nt s a w) {d : Tmp} (hd : nthD .bad s.fr d ≠ .bad) : ∃ v, a.tmps[d]? = some v ∧
    ∃ ν, RepA (Msum M0 ν (obF s.obs)) ν (· < s.obs.length) (obF s.obs) w (nthD .bad s.fr d) v := by
  obtain ⟨_, _, h3, _, ν, _, _, hr⟩ := h
  have hlt : d < a.tmps.size := by rw [h3]; exact nthD_lt rfl hd
  refine ⟨a.tmps[d], by simp [hlt], ν, ?_⟩
  have := hr d
  simpa [Array.getD_eq_getD_getElem?, hlt] using this

/-- The step after an operation, in the interpreter. -/
def stepK (E : Env X) (all : List Oper) (n0 : Nat) (rest : List Oper) (bs : List (Option Nat)) (o : Oper) (s : St) (K : St → Option R) : Option R :=
  bif isEff E o.op then effK E (match o.dst with | some d => hasT d (consOps E rest) | none => false) s.obs (evA s.fr) o.op fun v obs =>
    runOps E all n0 rest (bs.drop 1) ⟨put s.fr o.dst v, obs⟩ K
  else freeK E s.obs.length (match o.dst with | some d => hasT d (consOps E rest) | none => false)
    (match bs with
      | some b :: _ => fun id => bif decide (id < n0) || b.testBit (id - n0) then s.ob id else none
      | _ => s.ob) (evA s.fr) o.op fun v ob =>
    runOps E all n0 rest (bs.drop 1) ⟨put s.fr o.dst v, s.obs ++ [ob]⟩ K

def skipK (E : Env X) (all : List Oper) (n0 : Nat) (rest : List Oper) (bs : List (Option Nat)) (o : Oper) (s : St) (K : St → Option R) : Option R :=
  runOps E all n0 rest (bs.drop 1) ⟨put s.fr o.dst .und, s.obs ++ [none]⟩ K

/-- Which way a guard sends the step. -/
inductive Way (all : List Oper) (s : St) (o : Oper) : Bool → Prop
  | free (h : o.guard = none) : Way all s o true
  | met (j : Nat) (want : Bool) (p : Oper) (d : Tmp) (b : Bool) (h : o.guard = some (j, want)) (hp : all[j]? = some p) (hd : p.dst = some d) (hv : nthD .bad s.fr d = .val .bool b) : Way all s o (b == want)
  | und (j : Nat) (want : Bool) (p : Oper) (d : Tmp) (h : o.guard = some (j, want)) (hp : all[j]? = some p) (hd : p.dst = some d) (hv : nthD .bad s.fr d = .und) : Way all s o false

theorem runOps_cons {E : Env X} {all : List Oper} {n0 : Nat} {o : Oper} {rest : List Oper} {bs : List (Option Nat)} {s : St} {K : St → Option R} {r : R} (h : runOps E all n0 (o :: rest) bs s K = some r) :
    ∃ y, Way all s o y ∧ (bif y then stepK E all n0 rest bs o s K else skipK E all n0 rest bs o s K) = some r := by
  unfold runOps at h
  simp only [force_eq] at h
  split at h
  · rename_i hg
    exact ⟨true, .free hg, h⟩
  · rename_i j want hg
    split at h
    · cases h
    · rename_i p hp
      split at h
      · cases h
      · rename_i d hd
        split at h
        · rename_i b hv
          refine ⟨_, .met j want p d b hg hp hd hv, ?_⟩
          cases b <;> cases want <;> simp only [cond_true, cond_false, setN_self hv] at h <;> exact h
        · rename_i hv
          exact ⟨false, .und j want p d hg hp hd hv, h⟩
        · cases h

theorem Way.wanted' {all : List Oper} {s : St} {o : Oper} {y : Bool} (h : Way all s o y) {a : Act}
    (hm : ∀ g want p d, o.guard = some (g, want) → all[g]? = some p → p.dst = some d → nthD .bad s.fr d ≠ .bad → ∃ v, a.tmps[d]? = some v ∧ ∃ M ν dom obs w, RepA M ν dom obs w (nthD .bad s.fr d) v) :
    Region.wanted o (yielded all.toArray a.tmps) = y := by
  unfold Region.wanted
  cases h with
  | free h => rw [h]
  | met j want p d b h hp hd hv =>
    rw [h]
    obtain ⟨v, hv1, _, ν, _, _, _, hv2⟩ := hm j want p d h hp hd (by rw [hv]; simp)
    rw [hv] at hv2
    have e := repV_bool hv2
    subst e
    simp only
    rw [yielded_some (p := p) (by simpa using hp) hd hv1]
    cases b <;> cases want <;> rfl
  | und j want p d h hp hd hv =>
    rw [h]
    obtain ⟨v, hv1, _, ν, _, _, _, hv2⟩ := hm j want p d h hp hd (by rw [hv]; simp)
    rw [hv] at hv2
    have e : v = undef := hv2
    subst e
    simp only
    rw [yielded_some (p := p) (by simpa using hp) hd hv1]
    cases want <;> rfl

theorem Way.wanted {all : List Oper} {s : St} {o : Oper} {y : Bool} (h : Way all s o y) {M0 : Nat → Prop} {b0 : Nat → Prop} {w0 : World} {a : Act} {w : World} (hm : Matches M0 b0 w0 nt s a w) :
    Region.wanted o (yielded all.toArray a.tmps) = y :=
  h.wanted' fun _ _ _ d _ _ _ hb => by
    obtain ⟨v, h1, ν, h2⟩ := hm.tmp (d := d) hb
    exact ⟨v, h1, _, ν, _, _, _, h2⟩

theorem skip_matches {M0 : Nat → Prop} {b0 : Nat → Prop} {w0 : World} {s : St} {a : Act} {w : World} (h : Matches M0 b0 w0 nt s a w) (dst : Option Tmp) : Matches M0 b0 w0 nt ⟨put s.fr dst .und, s.obs ++ [none]⟩ (a.put dst undef) w := by
  obtain ⟨h1, h2, h3, hn3, ν, hw, hg, hr⟩ := h
  have hF : obF (s.obs ++ [none]) = obF s.obs := obF_snoc_none s.obs
  refine put_matches h1 h2 h3 hn3 (ν := ν) (hw.next (by simp) (fun _ _ => rfl)) (by rw [hF]; exact hg) (fun t => ?_) dst rfl
  rw [hF]
  have := hr t
  generalize nthD .bad s.fr t = av at this ⊢
  cases av with
  | own id => exact ⟨by simp only [List.length_append, List.length_singleton]; exact Nat.lt_succ_of_lt this.1, this.2⟩
  | win id lo n => exact ⟨by simp only [List.length_append, List.length_singleton]; exact Nat.lt_succ_of_lt this.1, this.2⟩
  | ptr id ix p => exact ⟨by simp only [List.length_append, List.length_singleton]; exact Nat.lt_succ_of_lt this.1, this.2⟩
  | _ => exact this

theorem step_sound {E : Env X} (hty : ∀ T ti, E.ty T = some ti → TyOk P T ti) (hfn : FnsOk P E) {all : List Oper} {n0 : Nat} {o : Oper} {rest : List Oper} {bs : List (Option Nat)} {s : St} {K : St → Option R} {r : R}
    (h : runOps E all n0 (o :: rest) bs s K = some r) {M0 : Nat → Prop} {b0 : Nat → Prop} {w0 w : World} {a : Act} (hm : Matches M0 b0 w0 nt s a w) {next : Act → World → Prop} {Q : Exit → Act → World → Prop}
    (hn : ∀ s' a' w', runOps E all n0 rest (bs.drop 1) s' K = some r → Matches M0 b0 w0 nt s' a' w' → next a' w') :
    if Region.wanted o (yielded all.toArray a.tmps) then o.wp P a w next Q ∨ (o.asks P a w ∧ LetsOut Q) else next (a.put o.dst undef) w := by
  obtain ⟨y, hy, hk⟩ := runOps_cons h
  rw [hy.wanted hm]
  cases y
  · simp only [cond_false, skipK] at hk
    simp only [Bool.false_eq_true, if_false]
    exact hn _ _ _ hk (skip_matches hm o.dst)
  · simp only [cond_true, stepK] at hk
    simp only [if_true]
    refine .inl ?_
    cases hE : isEff E o.op <;> simp only [hE, cond_true, cond_false] at hk
    · refine free_step hty hfn ?_ hk hm fun av nob a' w' hK hM => hn _ _ _ hK hM
      intro id ob hob
      split at hob
      · cases hb : decide (id < n0) || Nat.testBit _ (id - n0)
        · rw [hb] at hob; cases hob
        · rw [hb] at hob; exact hob
      · exact hob
    · exact eff_step hty hfn hk hm fun av obs' a' w' hK hM => hn _ _ _ hK hM

theorem list_sound {E : Env X} (hty : ∀ T ti, E.ty T = some ti → TyOk P T ti) (hfn : FnsOk P E) {all : List Oper} {n0 : Nat} {K : St → Option R} {r : R} {M0 : Nat → Prop} {b0 : Nat → Prop} {w0 : World} {Q : Exit → Act → World → Prop}
    (hQ : ∀ s' a' w', K s' = some r → Matches M0 b0 w0 nt s' a' w' → Q .normal a' w') : ∀ (l : List Oper) (bs : List (Option Nat)) (s : St) (a : Act) (w : World), runOps E all n0 l bs s K = some r → Matches M0 b0 w0 nt s a w → wpList P all.toArray Q l a w
  | [], _, _, _, _, h, hm => hQ _ _ _ (by simpa [runOps] using h) hm
  | _ :: rest, bs, _, _, _, h, hm => by
    have := step_sound hty hfn (Q := Q) h hm (next := wpList P all.toArray Q rest) fun s' a' w' h' hm' => list_sound hty hfn hQ rest (bs.drop 1) s' a' w' h' hm'
    exact this

theorem region_seq {E : Env X} (hty : ∀ T ti, E.ty T = some ti → TyOk P T ti) (hfn : FnsOk P E) {id : Nat} {ops : Array Oper} {s : St} {K : St → Option R} {r : R} (h : regionK E ops.toList false s K = some r)
    {M0 : Nat → Prop} {b0 : Nat → Prop} {w0 : World} {a : Act} {w : World} (hm : Matches M0 b0 w0 nt s a w) {Q : Exit → Act → World → Prop} (hQ : ∀ s' a' w', K s' = some r → Matches M0 b0 w0 nt s' a' w' → Q .normal a' w') : (Code.region id ops false).wp P Q a w := by
  unfold regionK at h
  simp only [force_eq, cond_false] at h
  refine wp_region_list ?_
  have := list_sound hty hfn hQ ops.toList [] _ a w h (freeze_sound _ s hm)
  simpa using this

end Go.FK
