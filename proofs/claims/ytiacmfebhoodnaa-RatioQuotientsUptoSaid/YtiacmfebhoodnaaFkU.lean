/- A whole function: points, results, the contract. -/
import Derived.Test.YtiacmfebhoodnaaFkT
namespace Go.FK
open Go.RowKit

variable {P : Program} {X R : Type} {nt : Nat × List Value} {M0 : Nat → Prop} {b0 : Nat → Prop} {w0 : World}

/-! ### A point's state is the state's -/
theorem eqPath_eq : ∀ {a b : List Nat}, eqPath a b = true → a = b
  | [], [], _ => rfl
  | a :: as, b :: bs, h => by
    simp only [eqPath, Bool.and_eq_true, beq_iff_eq] at h
    rw [h.1, eqPath_eq h.2]

theorem packObjs_spec (s : St) (io : Nat) (slots : List (Tmp × Kind)) : ∀ (os : List (TypeId × Ty × Bool)) (j : Nat) (ids : List Nat) (ds : List Dyn) (ids' : List Nat) (ds' : List Dyn), packObjs s io slots os j ids ds = some (ids', ds') →
    ∃ more dmore, ids' = ids ++ more ∧ ds' = ds ++ dmore ∧ (distinct ids = true → distinct ids' = true) ∧ (∀ es, unObjs os (dmore ++ es) = (more.map (nthD none s.obs), es)) ∧ more.length = os.length ∧ ∀ k id, more[k]? = some id → j + k < io → id = j + k
  | [], j, ids, ds, ids', ds', h => by
    simp only [packObjs, Option.some.injEq, Prod.mk.injEq] at h
    exact ⟨[], [], by simp [h.1], by simp [h.2], fun hd => by rw [← h.1]; exact hd, fun es => by simp [unObjs], rfl, fun k id hk => by simp at hk⟩
  | (e, t, bx) :: os, j, ids, ds, ids', ds', h => by
    simp only [packObjs] at h
    split at h
    · cases h
    rename_i id hid
    split at h
    · cases h
    rename_i hno
    split at h
    · cases h
    rename_i ob hob
    split at h
    case isFalse => cases h
    rename_i hc
    simp only [Bool.and_eq_true, decide_eq_true_eq] at hc
    have hio : ∀ more : List Nat, (∀ k id', more[k]? = some id' → j + 1 + k < io → id' = j + 1 + k) → ∀ k id', (id :: more)[k]? = some id' → j + k < io → id' = j + k := by
      intro more h6 k id' hk hlt
      cases k with
      | zero =>
        simp only [List.getElem?_cons_zero, Option.some.injEq] at hk
        subst hk
        rw [show decide (j < io) = true by simpa using hlt] at hid
        simpa using hid.symm
      | succ k =>
        have := h6 k id' (by simpa using hk) (by omega)
        omega
    have hdis : distinct ids = true → distinct (ids ++ [id]) = true := by
      intro hd
      have hn : id ∉ ids := fun hm => hno (hasN_mem.2 hm)
      clear hno h hid hob
      induction ids with
      | nil => rfl
      | cons y ys ih =>
        simp only [distinct, Bool.and_eq_true, Bool.not_eq_true'] at hd
        simp only [List.cons_append, distinct, Bool.and_eq_true, Bool.not_eq_true']
        simp only [List.mem_cons, not_or] at hn
        refine ⟨?_, ih hd.2 hn.2⟩
        cases hx : hasN y (ys ++ [id]) with
        | false => rfl
        | true =>
          have := hasN_mem.1 hx
          simp only [List.mem_append, List.mem_singleton] at this
          rcases this with h | h
          · rw [hasN_mem.2 h] at hd; cases hd.1
          · exact absurd h.symm hn.1
    obtain ⟨he, ht⟩ := hc
    obtain ⟨oe, ot, ol⟩ := ob
    simp only at he ht
    subst he ht
    split at h
    · rename_i hbx
      subst hbx
      cases ol with
      | nil => cases h
      | cons x xs =>
        cases xs with
        | cons y ys => cases h
        | nil =>
          obtain ⟨more, dmore, h1, h2, h3, h4, h5, h6⟩ := packObjs_spec s io slots os _ _ _ _ _ h
          exact ⟨id :: more, (⟨ot, x⟩ : Dyn) :: dmore, by simp [h1], by simp [h2], fun hd => h3 (hdis hd), fun es => by simp [unObjs, h4, hob], by simp [h5], hio more h6⟩
    · rename_i hbx
      have hbx : bx = false := by simpa using hbx
      subst hbx
      obtain ⟨more, dmore, h1, h2, h3, h4, h5, h6⟩ := packObjs_spec s io slots os _ _ _ _ _ h
      exact ⟨id :: more, (⟨Ty.list ot, ol⟩ : Dyn) :: dmore, by simp [h1], by simp [h2], fun hd => h3 (hdis hd), fun es => by simp [unObjs, h4, hob], by simp [h5], hio more h6⟩

theorem distinct_get : ∀ {l : List Nat}, distinct l = true → ∀ (i j a : Nat), l[i]? = some a → l[j]? = some a → i = j
  | y :: ys, h, i, j, a, hi, hj => by
    simp only [distinct, Bool.and_eq_true, Bool.not_eq_true'] at h
    have hno : y ∉ ys := fun hm => by rw [hasN_mem.2 hm] at h; cases h.1
    cases i with
    | zero =>
      cases j with
      | zero => rfl
      | succ j =>
        simp at hi hj
        subst hi
        exact absurd (List.mem_of_getElem? hj) hno
    | succ i =>
      cases j with
      | zero =>
        simp at hi hj
        subst hj
        exact absurd (List.mem_of_getElem? hi) hno
      | succ j =>
        have := distinct_get h.2 i j a (by simpa using hi) (by simpa using hj)
        omega

theorem nthD_map_get {α β : Type} (d : α) (e : β) (f : α → β) : ∀ (l : List α) (j : Nat) (a : α), l[j]? = some a → nthD e (l.map f) j = f a
  | _ :: _, 0, a, h => by simp at h; subst h; rfl
  | x :: xs, j + 1, a, h => nthD_map_get d e f xs j a (by simpa using h)

theorem unSlots_rep {s : St} {a : Act} {w : World} {ν : Nat → Value} (hg : Good M0 b0 ν (obF s.obs) w) (hr : ∀ t, RepA (Msum M0 ν (obF s.obs)) ν (· < s.obs.length) (obF s.obs) w (nthD .bad s.fr t) (a.tmps.getD t undef)) {ids : List Nat}
    {M' : Nat → Prop} {ν' : Nat → Value} {obs' : List (Option Ob)} (hM : ∀ b, M' b → Msum M0 ν (obF s.obs) b) (hν : ∀ j id, ids[j]? = some id → ν' j = ν id) (hobs : ∀ j id, ids[j]? = some id → obF obs' j = obF s.obs id) (hlen : obs'.length = ids.length) :
    ∀ (slots : List (Tmp × Kind)) (es : List Dyn) (fr0 : List AV), packSlots s ids slots = some es → fr0.length ≤ a.tmps.size → (∀ t, RepA M' ν' (· < obs'.length) (obF obs') w (nthD .bad fr0 t) (a.tmps.getD t undef)) →
      (unSlots fr0 slots es).length = fr0.length ∧ ∀ t, RepA M' ν' (· < obs'.length) (obF obs') w (nthD .bad (unSlots fr0 slots es) t) (a.tmps.getD t undef)
  | [], es, fr0, h, hl, h0 => by simpa [unSlots] using h0
  | (u, k) :: ks, es, fr0, h, hl, h0 => by
    have step : ∀ av, RepA M' ν' (· < obs'.length) (obF obs') w av (a.tmps.getD u undef) → ∀ t, RepA M' ν' (· < obs'.length) (obF obs') w (nthD .bad (setN av fr0 u) t) (a.tmps.getD t undef) := by
      intro av hav t
      rw [nthD_setN]
      split
      · rename_i e
        rw [← e.1]
        exact hav
      · exact h0 t
    have hru := hr u
    simp only [packSlots] at h
    split at h
    · rename_i ty
      split at h
      · rename_i d ds hd hds
        simp only [Option.some.injEq] at h
        subst h
        have := toDyn_rep hd hru
        have := unSlots_rep hg hr hM hν hobs hlen ks ds (setN (.val d.1 d.2) fr0 u) hds (by rw [length_setN]; exact hl) (step _ (RepV.next (Agree.refl _ _) (fun b _ hb => hM b hb) this))
        simpa [unSlots, length_setN] using this
      · cases h
    · rename_i j id hav
      split at h
      · rename_i hid
        rw [hav] at hru
        have hj : j < obs'.length := by
          rw [hlen]
          exact (List.getElem?_eq_some_iff.1 hid).1
        have := unSlots_rep hg hr hM hν hobs hlen ks es (setN (.own j) fr0 u) h (by rw [length_setN]; exact hl) (step _ ⟨hj, by rw [hν j id hid]; exact hru.2⟩)
        simpa [unSlots, length_setN] using this
      · cases h
    · rename_i j path id path' hav
      split at h
      · rename_i hid
        simp only [Bool.and_eq_true, decide_eq_true_eq] at hid
        rw [hav] at hru
        have hj : j < obs'.length := by
          rw [hlen]
          exact (List.getElem?_eq_some_iff.1 hid.1).1
        have hp := eqPath_eq hid.2
        subst hp
        have := unSlots_rep hg hr hM hν hobs hlen ks es (setN (.ptr j 0 path) fr0 u) h (by rw [length_setN]; exact hl) (step _ ⟨hj, fun ob hob => by
          rw [hobs j id hid.1] at hob
          rw [hν j id hid.1]
          exact hru.2 ob hob⟩)
        simpa [unSlots, length_setN] using this
      · cases h
    · rename_i j id lo n hav
      split at h
      · rename_i hid
        split at h
        · rename_i ds hds
          simp only [Option.some.injEq] at h
          subst h
          rw [hav] at hru
          have hj : j < obs'.length := by
            rw [hlen]
            exact (List.getElem?_eq_some_iff.1 hid).1
          have := unSlots_rep hg hr hM hν hobs hlen ks ds (setN (.win j lo n) fr0 u) hds (by rw [length_setN]; exact hl) (step _ ⟨hj, fun ob hob => by
            rw [hobs j id hid] at hob
            rw [hν j id hid]
            exact hru.2 ob hob⟩)
          simpa [unSlots, length_setN] using this
        · cases h
      · cases h
    · rename_i f g hav
      split at h
      · rename_i e
        subst e
        rw [hav] at hru
        have := unSlots_rep hg hr hM hν hobs hlen ks es (setN (.fn f) fr0 u) h (by rw [length_setN]; exact hl) (step _ hru)
        simpa [unSlots, length_setN] using this
      · cases h
    · cases h

theorem length_blank : ∀ n, (blank n).length = n
  | 0 => rfl
  | n + 1 => by simp [blank, length_blank n]

theorem nthD_blank : ∀ n t, nthD AV.bad (blank n) t = .bad
  | 0, _ => rfl
  | _ + 1, 0 => rfl
  | n + 1, t + 1 => nthD_blank n t

theorem unpack_matches {s : St} {a : Act} {w : World} (hm : Matches M0 b0 w0 nt s a w) {sig : PSig} (hsig : nt.2.length ≤ sig.io ∧ sig.io ≤ sig.objs.length) {ds : List Dyn} (h : pack s sig = some ds) : Matches M0 b0 w0 nt (unpack sig nt.1 ds) a w := by
  obtain ⟨h1, h2, h3, hn3, ν, hw, hg, hr⟩ := hm
  unfold pack at h
  split at h
  · cases h
  rename_i ids dso hpo
  split at h
  · cases h
  rename_i es hps
  simp only [Option.some.injEq] at h
  subst h
  obtain ⟨more, dmore, e1, e2, e3, e4, e5, e6⟩ := packObjs_spec s sig.io sig.slots sig.objs 0 [] [] ids dso hpo
  simp only [List.nil_append] at e1 e2
  subst e1 e2
  have hdis := e3 rfl
  have hobs : ∀ j id, ids[j]? = some id → obF (ids.map (nthD none s.obs)) j = obF s.obs id := fun j id hj => nthD_map_get 0 none _ ids j id hj
  let ν' : Nat → Value := fun j => ν (ids.getD j 0)
  have hν : ∀ j id, ids[j]? = some id → ν' j = ν id := fun j id hj => by simp [ν', hj]
  have hget : ∀ j ob, obF (ids.map (nthD none s.obs)) j = some ob → ∃ id, ids[j]? = some id ∧ obF s.obs id = some ob := by
    intro j ob hj
    have hlt := obF_lt hj
    simp only [List.length_map] at hlt
    refine ⟨ids[j], by simp [hlt], ?_⟩
    rw [← hobs j ids[j] (by simp [hlt])]
    exact hj
  have hM : ∀ b, Msum M0 ν' (obF (ids.map (nthD none s.obs))) b → Msum M0 ν (obF s.obs) b := by
    rintro b (hb | ⟨j, ob, hj, hb⟩)
    · exact .inl hb
    · obtain ⟨id, k1, k2⟩ := hget j ob hj
      exact .inr ⟨id, ob, k2, by rw [← hν j id k1]; exact hb⟩
  have hG : Good M0 b0 ν' (obF (ids.map (nthD none s.obs))) w := by
    refine ⟨hg.m0, hg.hb, fun j ob hj => ?_, fun i j obi obj hi hj hij => ?_⟩
    · obtain ⟨id, k1, k2⟩ := hget j ob hj
      obtain ⟨q1, q2, xs, q3, q4⟩ := hg.ob id ob k2
      rw [hν j id k1]
      exact ⟨q1, q2, xs, q3, q4.next (Agree.refl _ _) (fun b _ hb => hM b hb)⟩
    · obtain ⟨id, k1, k2⟩ := hget i obi hi
      obtain ⟨id', k3, k4⟩ := hget j obj hj
      rw [hν i id k1, hν j id' k3]
      refine hg.ne id id' obi obj k2 k4 fun e => hij ?_
      subst e
      exact distinct_get hdis i j id k1 k3
  have hU : unpack sig nt.1 (dso ++ es) = ⟨unSlots (blank nt.1) sig.slots es, ids.map (nthD none s.obs)⟩ := by
    simp only [unpack, e4]
  rw [hU]
  have := unSlots_rep hg hr hM hν hobs (by simp) sig.slots es (blank nt.1) hps (by rw [length_blank, hn3]; exact Nat.le_refl _) (fun t => by rw [nthD_blank]; trivial)
  refine ⟨h1, h2, by simp only [this.1, length_blank, hn3], hn3, ν', fun j v hj => ?_, hG, this.2⟩
  have hjl : j < nt.2.length := (List.getElem?_eq_some_iff.1 hj).1
  have hjn : j < ids.length := by omega
  have hid : ids[j]? = some ids[j] := by simp [hjn]
  have := e6 j ids[j] hid (by omega)
  rw [Nat.zero_add] at this
  rw [this] at hid
  exact ⟨by simpa using hjn, by rw [hν j j hid]; exact (hw j v hj).2⟩

/-! ### The entry -/
theorem repDs_get {M : Nat → Prop} {w : World} : ∀ {ds : List Dyn} {vs : List Value}, RepDs M w ds vs → ds.length = vs.length ∧ ∀ (i : Nat) (d : Dyn), ds[i]? = some d → ∃ v, vs[i]? = some v ∧ RepV M w d.1 d.2 v
  | [], [], _ => ⟨rfl, fun i d h => by simp at h⟩
  | d :: ds, v :: vs, h => by
    obtain ⟨h1, h2⟩ := repDs_get h.2
    refine ⟨by simp [h1], fun i e hi => ?_⟩
    cases i with
    | zero => simp at hi; subst hi; exact ⟨v, rfl, h.1⟩
    | succ i => obtain ⟨u, k1, k2⟩ := h2 i e (by simpa using hi); exact ⟨u, by simpa using k1, k2⟩

theorem entry_matches {nt : Nat} {M : Nat → Prop} {w : World} {ds : List Dyn} {vs : List Value} (hM : ∀ b, M b → b < w.heap.size) (h : RepDs M w ds vs) (hn : ds.length ≤ nt) :
    Matches M (w.heap.size ≤ ·) w (nt, []) (entry nt ds) { tmps := vs.toArray ++ Array.replicate (nt - vs.toArray.size) undef, defers := [] } w := by
  obtain ⟨hl, hget⟩ := repDs_get h
  have hsz : vs.toArray.size = vs.length := by simp
  refine ⟨rfl, Beyond.refl _ _, by simp [entry, length_blank, hl], by simp; omega, fun _ => undef, fun j v hj => by simp at hj, ⟨fun b hb hle => absurd (hM b hb) (by omega), fun b h => h, fun id ob ho => by simp [obF, entry, nthD] at ho, fun i j obi obj hi => by simp [obF, entry, nthD] at hi⟩, fun t => ?_⟩
  by_cases ht : t < ds.length
  · obtain ⟨v, h1, h2⟩ := hget t ds[t] (by simp [ht])
    have e1 : nthD AV.bad (entry nt ds).fr t = .val ds[t].1 ds[t].2 := by
      simp only [entry]
      rw [nthD_eq, List.getD_eq_getElem?_getD, List.getElem?_append_left (by simpa using ht)]
      simp [ht]
    have e2 : ({ tmps := vs.toArray ++ Array.replicate (nt - vs.toArray.size) undef, defers := [] } : Act).tmps.getD t undef = v := by
      rw [Array.getD_eq_getD_getElem?, Array.getElem?_append_left (by simp; omega)]
      simp [h1]
    rw [e1, e2]
    refine RepV.next (Agree.refl _ _) (fun b _ hb => ?_) h2
    rcases hb with hb | ⟨id, ob, ho, _⟩
    · exact hb
    · simp [obF, entry, nthD] at ho
  · have e1 : nthD AV.bad (entry nt ds).fr t = .bad := by
      simp only [entry]
      rw [nthD_eq, List.getD_eq_getElem?_getD, List.getElem?_append_right (by simpa using ht)]
      have := nthD_blank (nt - ds.length) (t - ds.length)
      rw [nthD_eq, List.getD_eq_getElem?_getD] at this
      simpa using this
    rw [e1]
    trivial

/-! ### The results -/
theorem toDynO_rep {s : St} {w : World} {ν : Nat → Value} (hg : Good M0 b0 ν (obF s.obs) w) {M' : Nat → Prop} (hM : ∀ b, M' b → Msum M0 ν (obF s.obs) b) {av : AV} {v : Value} {d : Dyn} (h : toDynO s av = some d)
    (hown : ∀ id ob, av = .own id → obF s.obs id = some ob → ∀ b, (ν id).ownBlock = some b → ¬ M' b) (hr : RepA (Msum M0 ν (obF s.obs)) ν (· < s.obs.length) (obF s.obs) w av v) : RepV M' w d.1 d.2 v := by
  unfold toDynO at h
  split at h
  · simp only [Option.some.injEq] at h
    subst h
    exact RepV.next (Agree.refl _ _) (fun b _ hb => hM b hb) hr
  · rename_i id
    split at h
    · rename_i ob hob
      simp only [Option.some.injEq] at h
      subst h
      obtain ⟨_, hv⟩ := hr
      subst hv
      obtain ⟨q1, q2, xs, q3, q4⟩ := hg.ob id ob hob
      exact ⟨by simpa [Ty.ok] using q1, [ν id], RepRow.list q3.1 (q4.next (Agree.refl _ _) (fun b _ hb => hM b hb)) (fun b hb => hown id ob rfl hob b hb), by simp [ofCells, Ty.isSt]⟩
    · cases h
  · cases h

theorem results_rep {tyof : TypeId → Option TI} (hty : ∀ T ti, tyof T = some ti → TyOk P T ti) {s : St} {a : Act} {w : World} {ν : Nat → Value} (hg : Good M0 b0 ν (obF s.obs) w)
    (hr : ∀ t, RepA (Msum M0 ν (obF s.obs)) ν (· < s.obs.length) (obF s.obs) w (nthD .bad s.fr t) (a.tmps.getD t undef)) {M' : Nat → Prop} (hM : ∀ b, M' b → Msum M0 ν (obF s.obs) b)
    (f : ResultVar → Sem Value) (hf : ∀ u, f (.tmp u) = pure (a.tmps.getD u undef)) (hc : ∀ p t, f (.cell p t) = (do loadVar t (← asAddr (a.tmps.getD p undef)))) :
    ∀ (ts : List Ty) (rv : List ResultVar) (ds : List Dyn), (∀ u id ob, .tmp u ∈ rv → nthD .bad s.fr u = .own id → obF s.obs id = some ob → ∀ b, (ν id).ownBlock = some b → ¬ M' b) →
      resultsK tyof s ts rv = some ds → ∃ us, (rv.mapM f).run P w = .ok us w ∧ RepDs M' w ds us
  | [], [], ds, _, h => by simp [resultsK] at h; subst h; exact ⟨[], by simp, trivial⟩
  | t :: ts, .tmp u :: rs, ds, hown, h => by
    simp only [resultsK] at h
    split at h
    · rename_i d ds' hd hds
      simp only [Option.some.injEq] at h
      subst h
      obtain ⟨us, h1, h2⟩ := results_rep hty hg hr hM f hf hc ts rs ds' (fun u id ob hu => hown u id ob (by simp [hu])) hds
      refine ⟨a.tmps.getD u undef :: us, by simp [List.mapM_cons, hf, h1], ?_, h2⟩
      have hru := hr u
      split at hd
      · rename_i e
        rw [e] at hru
        have := toDyn_rep hd hru
        exact RepV.next (Agree.refl _ _) (fun b _ hb => hM b hb) this
      · exact toDynO_rep hg hM hd (fun id ob e hob => hown u id ob (by simp) e hob) hru
    · cases h
  | t :: ts, .cell p T :: rs, ds, hown, h => by
    simp only [resultsK] at h
    split at h
    · rename_i id hp
      split at h
      · rename_i ob hob
        split at h
        · rename_i x hl
          split at h
          · rename_i hT
            split at h
            · rename_i ds' hds
              simp only [Option.some.injEq] at h
              subst h
              obtain ⟨us, h1, h2⟩ := results_rep hty hg hr hM f hf hc ts rs ds' (fun u id ob hu => hown u id ob (by simp [hu])) hds
              obtain ⟨ti, hti, htd⟩ := isTy_ok hT
              have hru := hr p
              rw [hp] at hru
              obtain ⟨hix, g, n, c, hν, hv⟩ := hru.2 ob hob
              have hgp : getP [] ob.t (nthD ob.t.zero ob.l 0) = some ⟨ob.t, x⟩ := by simp [getP, hl, nthD]
              obtain ⟨k1, cs, k2, k3⟩ := ptr_cells hg hob hix hgp hν
              have htok := hty T ti hti
              obtain ⟨oe, ot, ol⟩ := ob
              simp only at htd k1 k2 k3 hv hl
              subst htd
              have := run_loadVar_rep htok k2 _ k3
              refine ⟨ofCells ti.t cs :: us, ?_, RepV.next (Agree.refl _ _) (fun b _ hb => hM b hb) ⟨k1, cs, k2, rfl⟩, h2⟩
              rw [List.mapM_cons, hc, hv]
              have e0 : 0 * ti.t.sz + offP [] ti.t = 0 := by simp [offP]
              rw [e0] at this ⊢
              simp [asAddr, this, h1]
            · cases h
          · cases h
        · cases h
      · cases h
    · cases h
  | [], _ :: _, _, _, h => by simp [resultsK] at h
  | _ :: _, [], _, _, h => by simp [resultsK] at h

theorem results_tuple {fn : Func} {tmps : Array Value} {w : World} {us : List Value} (h : ∀ f : ResultVar → Sem Value, (∀ u, f (.tmp u) = pure (tmps.getD u undef)) → (∀ p t, f (.cell p t) = (do loadVar t (← asAddr (tmps.getD p undef)))) → (fn.results.toList.mapM f).run P w = .ok us w) :
    (results fn tmps).run P w = .ok (tupleOf us) w := by
  unfold results
  rw [show fn.results = fn.results.toList.toArray by simp, List.mapM_toArray]
  simp only [Sem.run_bind, Sem.run_map]
  rw [h _ (fun u => rfl) (fun p t => rfl)]
  match us with
  | [] => simp [tupleOf]
  | [v] => simp [tupleOf]
  | _ :: _ :: _ => simp [tupleOf]

end Go.FK
