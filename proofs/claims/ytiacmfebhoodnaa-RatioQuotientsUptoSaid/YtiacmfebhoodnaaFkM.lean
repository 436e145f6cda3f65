/- Operations that write: into a row of the call's own, and append to one. -/
import Derived.Test.YtiacmfebhoodnaaFkL
import Derived.Maps.AppendAt
namespace Go.FK
open Go.RowKit

variable {P : Program} {ρ : Operand → AV} {X R : Type}

/-- Behind an operation that writes: the objects are others, what else was known is known. -/
structure After (M0 : Nat → Prop) (b0 : Nat → Prop) (ν ν' : Nat → Value) (n : Nat) (obs obs' : Obs) (w w' : World) : Prop where
  nu : ∀ id, id < n → ν' id = ν id
  below : Beyond b0 w w'
  good : Good M0 b0 ν' obs' w'
  keep : ∀ av v, RepA (Msum M0 ν obs) ν (· < n) obs w av v → RepA (Msum M0 ν' obs') ν' (· < n + 1) obs' w' av v

def obF (obs : List (Option Ob)) : Obs := nthD none obs

def EffSound (P : Program) (obs : List (Option Ob)) (ρ : Operand → AV) (op : Op) (av : AV) (obs' : List (Option Ob)) : Prop :=
  obs'.length = obs.length + 1 ∧ ∀ (M0 : Nat → Prop) (b0 : Nat → Prop) (ν : Nat → Value) (w : World) (a : Act) (o : Oper), o.op = op → Good M0 b0 ν (obF obs) w →
    (∀ x ∈ op.operands, RepA (Msum M0 ν (obF obs)) ν (· < obs.length) (obF obs) w (ρ x) (a.eval x)) →
    ∀ (next : Act → World → Prop) (Q : Exit → Act → World → Prop),
      (∀ v w' ν', After M0 b0 ν ν' obs.length (obF obs) (obF obs') w w' → RepA (Msum M0 ν' (obF obs')) ν' (· < obs.length + 1) (obF obs') w' av v → next (a.put o.dst v) w') → o.wp P a w next Q

theorem obF_snoc_none (obs : List (Option Ob)) : obF (obs ++ [none]) = obF obs := by
  funext id
  simp only [obF, nthD_eq, List.getD_eq_getElem?_getD]
  rcases Nat.lt_or_ge id obs.length with h | h
  · rw [List.getElem?_append_left h]
  · rw [List.getElem?_append_right h, List.getElem?_eq_none (l := obs) h]
    cases hk : id - obs.length with
    | zero => rfl
    | succ k => rfl
theorem obF_lt {obs : List (Option Ob)} {id : Nat} {ob : Ob} (h : obF obs id = some ob) : id < obs.length := by
  have := nthD_none obs id ob h
  rcases Nat.lt_or_ge id obs.length with h' | h'
  · exact h'
  · rw [List.getElem?_eq_none h'] at this; cases this
theorem obF_snoc (obs : List (Option Ob)) (o : Option Ob) : obF (obs ++ [o]) = upd (obF obs) obs.length o := by
  funext id
  simp only [obF, upd, nthD_eq, List.getD_eq_getElem?_getD]
  rcases Nat.lt_or_ge id obs.length with h | h
  · rw [List.getElem?_append_left h, if_neg (by omega)]
  · rw [List.getElem?_append_right h]
    by_cases e : id = obs.length
    · subst e; simp
    · rw [if_neg e, List.getElem?_eq_none (l := obs) h, List.getElem?_eq_none (by simp; omega)]
theorem obF_set (obs : List (Option Ob)) (id : Nat) (o : Option Ob) (h : id < obs.length) : obF (setN o obs id) = upd (obF obs) id o := by
  funext j
  simp only [obF, upd, nthD_setN]
  by_cases e : id = j
  · subst e; simp [h]
  · simp [e, show ¬ j = id from fun h => e h.symm]

/-- A part of an own row is written. -/
theorem own_splice {w : World} {b0 : Nat → Prop} {e : TypeId} {sz : Nat} {v : Value} {n : Nat} {xs : List Value} (h : owns b0 w e sz v n xs) {g : Nat} (hg : v.ownBlock = some g) {o : Nat} {vs : List Value} (ho : o + vs.length ≤ xs.length) (h1 : ∀ u ∈ vs, u.oneCell' = true) :
    ∃ w', (storeCells ⟨g, o, none⟩ vs).run P w = .ok () w' ∧ owns b0 w' e sz v n (splice xs o vs) ∧ w.grownBy w' (some g) := by
  obtain ⟨⟨hl, h⟩, hB⟩ := h
  rcases h with ⟨rfl, _⟩ | ⟨g', cap, cur, rfl, hb, hh, hnc, hcm, hcs, htake⟩
  · simp [Value.ownBlock] at hg
  · have : g' = g := by simpa [Value.ownBlock] using hg
    subst this
    have hxs : xs.length ≤ cur.size := by rw [← htake]; simp; omega
    have hrun := run_storeCells_at P g' o e vs 0 cur w hh (by omega) h1
    simp only [Nat.add_zero] at hrun
    refine ⟨_, hrun, ⟨⟨by rw [splice_len _ _ _ ho]; exact hl, .inr ⟨g', cap, _, rfl, hb, setRow_heap w g' cur _ e _ hh, hnc, hcm, ?_, ?_⟩⟩, hB⟩, ⟨rfl, rfl, rfl, by simp, fun k _ hk => setRow_other w g' k _ (fun e => hk (by simp [e]))⟩⟩
    · simp; omega
    · have hnle : n * sz ≤ cur.toList.length := by rw [← hl]; simpa using hxs
      apply List.ext_getElem?
      intro j
      rw [splice_get _ _ _ ho, List.getElem?_take]
      have e1 : (cur.toList.take o ++ vs ++ cur.toList.drop (o + vs.length)).toArray.toList = splice cur.toList o vs := by simp [splice]
      rw [e1, splice_get _ _ _ (by simp; omega), ← htake]
      simp only [List.getElem?_take]
      by_cases c1 : j < n * sz
      · simp [c1]
      · rw [if_neg c1, if_neg c1, if_neg (by omega), if_neg (by omega)]

theorem run_storeVar {T : TypeId} {ti : TI} (h : TyOk P T ti) {M : Nat → Prop} {w : World} {x : ti.t.D} {cs : List Value} {v : Value} (hr : Rep M w ti.t x cs) (hv : v = ofCells ti.t cs) (a : Addr) (w1 : World) :
    (storeVar T a v).run P w1 = (storeCells a cs).run P w1 := by
  obtain ⟨i, hi, hsz, _⟩ := h.2.1
  have hc : v.cells = cs.toArray := by rw [hv]; exact ofCells_cells h.1 hr
  have hl := Rep.len _ _ _ hr
  unfold storeVar
  simp [run_sizeOf hi, hc, hl, hsz]

/-- A row of the call's own is written. -/
theorem changed_after {M0 : Nat → Prop} {b0 : Nat → Prop} {ν : Nat → Value} {obs : List (Option Ob)} {w w' : World} (hg : Good M0 b0 ν (obF obs) w) {id : Nat} {ob : Ob} (hobF : obF obs id = some ob) (l' : List ob.t.D) (hll : l'.length = ob.l.length)
    {ys : List Value} (h2 : owns b0 w' ob.e ob.t.sz (ν id) ob.l.length ys) (h3 : w.grownBy w' (ν id).ownBlock) (hrow : RepRow (Msum M0 ν (obF obs)) w' ob.t l' ys) :
    After M0 b0 ν ν obs.length (obF obs) (upd (obF obs) id (some ⟨ob.e, ob.t, l'⟩)) w w' := by
  obtain ⟨hok, hsz, xs, how, _⟩ := hg.ob id ob hobF
  have hM : Msum M0 ν (upd (obF obs) id (some ⟨ob.e, ob.t, l'⟩)) = Msum M0 ν (obF obs) := by
    funext b
    apply propext
    constructor
    · rintro (hm | ⟨j, oj, hj, hb⟩)
      · exact .inl hm
      · unfold upd at hj
        split at hj
        · rename_i e; subst e; exact .inr ⟨j, ob, hobF, hb⟩
        · exact .inr ⟨j, oj, hj, hb⟩
    · rintro (hm | ⟨j, oj, hj, hb⟩)
      · exact .inl hm
      · by_cases e : j = id
        · subst e; exact .inr ⟨j, ⟨ob.e, ob.t, l'⟩, by simp [upd], hb⟩
        · exact .inr ⟨j, oj, by simp [upd, e, hj], hb⟩
  have hA := Agree.of_grown (M := Msum M0 ν (obF obs)) h3 (fun g e => .inr ⟨id, ob, hobF, e⟩)
  refine ⟨fun _ _ => rfl, Beyond.of_grown h3 hg.hb how.2, ⟨hg.m0, fun b hle => hg.hb b (Nat.le_trans h3.size hle), fun j oj hj => ?_, fun i j oi oj hi hj hij b hbi => ?_⟩, fun av v' hr' => ?_⟩
  · rw [hM]
    by_cases e : j = id
    · subst e
      simp only [upd, if_true, Option.some.injEq] at hj
      subst hj
      exact ⟨hok, hsz, ys, by rw [hll]; exact h2, hrow⟩
    · simp only [upd, if_neg e] at hj
      obtain ⟨q1, q2, zs, q3, q4⟩ := hg.ob j oj hj
      refine ⟨q1, q2, zs, ⟨q3.1.kept h3 ?_, q3.2⟩, q4.next hA (fun _ _ h => h)⟩
      cases hb : (ν j).ownBlock with
      | none => exact .inl rfl
      | some b => exact .inr fun e2 => hg.ne id j ob oj hobF hj (fun h => e h.symm) b e2.symm hb
  · have hi' : ∃ oi', obF obs i = some oi' := by
      unfold upd at hi; split at hi
      · rename_i e; subst e; exact ⟨ob, hobF⟩
      · exact ⟨oi, hi⟩
    have hj' : ∃ oj', obF obs j = some oj' := by
      unfold upd at hj; split at hj
      · rename_i e; subst e; exact ⟨ob, hobF⟩
      · exact ⟨oj, hj⟩
    obtain ⟨oi', hi'⟩ := hi'
    obtain ⟨oj', hj'⟩ := hj'
    exact hg.ne i j oi' oj' hi' hj' hij b hbi
  · rw [hM]
    cases av with
    | bad => trivial
    | und => exact hr'
    | nil => exact hr'
    | val t z => exact RepV.next hA (fun _ _ h => h) hr'
    | tup l =>
      obtain ⟨vs, e, q1, q2⟩ := hr'
      exact ⟨vs, e, q1, fun i d hi => by
        obtain ⟨u, hu, hr⟩ := q2 i d hi
        exact ⟨u, hu, RepV.next hA (fun _ _ h => h) hr⟩⟩
    | own j => exact ⟨Nat.lt_succ_of_lt hr'.1, hr'.2⟩
    | ptr j jx p =>
      refine ⟨Nat.lt_succ_of_lt hr'.1, fun oj hj => ?_⟩
      by_cases e : j = id
      · subst e
        simp only [upd, if_true, Option.some.injEq] at hj
        subst hj
        obtain ⟨q1, g', n', c', q2, q3⟩ := hr'.2 ob hobF
        exact ⟨by rw [hll]; exact q1, g', n', c', q2, q3⟩
      · simp only [upd, if_neg e] at hj
        exact hr'.2 oj hj
    | win j lo m =>
      refine ⟨Nat.lt_succ_of_lt hr'.1, fun oj hj => ?_⟩
      by_cases e : j = id
      · subst e
        simp only [upd, if_true, Option.some.injEq] at hj
        subst hj
        obtain ⟨q0, q1, q2⟩ := hr'.2 ob hobF
        exact ⟨q0, by rw [hll]; exact q1, q2⟩
      · simp only [upd, if_neg e] at hj
        exact hr'.2 oj hj
    | mem t z =>
      obtain ⟨q0, a', cs', e, q1, q2, q3, q4⟩ := hr'
      exact ⟨q0, a', cs', e, Nat.lt_of_lt_of_le q1 h3.size, q2, Rep.next hA (fun _ _ h => h) t z cs' q3, fun j u hj => hA.cell (by rw [block_add]; exact q2) (q4 j u hj)⟩
    | fn f => exact hr'

theorem written_after {M0 : Nat → Prop} {b0 : Nat → Prop} {ν : Nat → Value} {obs : List (Option Ob)} {w w' : World} (hg : Good M0 b0 ν (obF obs) w) {id : Nat} {ob : Ob} (hobF : obF obs id = some ob) (l' : List ob.t.D) (hll : l'.length = ob.l.length)
    {ys : List Value} (h2 : owns b0 w' ob.e ob.t.sz (ν id) ob.l.length ys) (h3 : w.grownBy w' (ν id).ownBlock) (hrow : RepRow (Msum M0 ν (obF obs)) w ob.t l' ys) :
    After M0 b0 ν ν obs.length (obF obs) (upd (obF obs) id (some ⟨ob.e, ob.t, l'⟩)) w w' :=
  changed_after hg hobF l' hll h2 h3 (hrow.next (Agree.of_grown (M := Msum M0 ν (obF obs)) h3 (fun _ e => .inr ⟨id, ob, hobF, e⟩)) (fun _ _ h => h))

theorem store_sound {E : Env X} (hty : ∀ T ti, E.ty T = some ti → TyOk P T ti) {cons : Bool} {obs : List (Option Ob)} {T : TypeId} {ad x : Operand} {K : AV → List (Option Ob) → Option R} {r : R}
    (h : effK E cons obs ρ (.store T ad x) K = some r) : ∃ av obs', K av obs' = some r ∧ EffSound P obs ρ (.store T ad x) av obs' := by
  simp only [effK] at h
  split at h
  · rename_i id ix path hρ
    split at h
    · rename_i ob hob
      split at h
      · rename_i d hd
        split at h
        · rename_i hT
          split at h
          · rename_i v hv
            split at h
            · rename_i y hy
              obtain ⟨ti, hti, htd⟩ := isTy_ok hT
              have htok := hty T ti hti
              have hobF : obF obs id = some ob := hob
              have hlt := obF_lt hobF
              refine ⟨_, _, h, by simp [length_setN], fun M0 b0 ν w a o ho hg hr next Q hK => ?_⟩
              have hx := hr ad (by simp [Op.operands])
              rw [hρ] at hx
              obtain ⟨hix, g, n, c, hν, hav⟩ := hx.2 ob hobF
              obtain ⟨hok, hsz, xs, how, hrow⟩ := hg.ob id ob hobF
              have hel := hrow.2 ix _ (nthD_some hix)
              obtain ⟨k1, k2⟩ := Rep.setP path v ob.t _ _ y hok hel hy
              have hvx := toDyn_rep hv (hr x (by simp [Op.operands]))
              obtain ⟨_, cs, hcs, hve⟩ := hvx
              have hlen := Rep.len _ _ _ hcs
              have hb := mul_le ix ob.l.length ob.t.sz hix
              have hxl := hrow.1
              -- the value's type is the place's
              have hvt : v.1 = ti.t := by
                have hgp : ∀ (p : List Nat) (t : Ty) (z : t.D) (d : Dyn), getP p t z = some d → ∀ (v : Dyn) (y : t.D), setP p v t z = some y → v.1 = d.1 := by
                  intro p
                  induction p with
                  | nil =>
                    intro t z d hd v y hy
                    simp only [getP, Option.some.injEq] at hd
                    simp only [setP] at hy
                    obtain ⟨e, _⟩ := castD_eq hy
                    rw [e, ← hd]
                  | cons j p ih =>
                    intro t z d hd v y hy
                    cases t with
                    | st t =>
                      simp only [getP] at hd
                      simp only [setP] at hy
                      split at hd
                      · rename_i f hf
                        have aux : ∀ (t : Ty) (z y : t.D) (j : Nat) (f : Dyn), fieldG t z j = some f → setF t z j (setP p v) = some y → ∃ q, setP p v f.1 f.2 = some q := by
                          intro t
                          induction t with
                          | pair a b iha ihb =>
                            intro z y j f hf hy
                            cases j with
                            | zero =>
                              simp only [fieldG, Option.some.injEq] at hf
                              subst hf
                              simp only [setF] at hy
                              split at hy
                              · exact ⟨_, by assumption⟩
                              · cases hy
                            | succ j =>
                              simp only [fieldG] at hf
                              simp only [setF] at hy
                              split at hy
                              · exact ihb z.2 _ j f hf (by assumption)
                              · cases hy
                          | unit => intro z y j f hf; simp [fieldG] at hf
                          | _ =>
                            intro z y j f hf hy
                            cases j with
                            | zero =>
                              simp only [fieldG, Option.some.injEq] at hf
                              subst hf
                              simp only [setF] at hy
                              exact ⟨_, hy⟩
                            | succ j => simp [fieldG] at hf
                        obtain ⟨q, hq⟩ := aux t z y j f hf hy
                        exact ih f.1 f.2 d hd v q hq
                      · cases hd
                    | _ => simp [getP] at hd
                rw [hgp path ob.t _ d hd v y hy, htd]
              obtain ⟨vt, vx⟩ := v
              simp only at hvt
              subst hvt
              simp only at hcs hve k1 k2 hlen
              obtain ⟨w', h1, h2, h3⟩ := own_splice (P := P) how (g := g) (by rw [hν]; rfl) (o := ix * ob.t.sz + offP path ob.t) (vs := cs) (by omega) (Rep.one _ _ _ hcs)
              have hrun : (execOp a.eval o).run P w = .ok .skip w' := by
                have := run_storeVar htok hcs hve ⟨g, ix * ob.t.sz + offP path ob.t, none⟩ w
                rw [h1] at this
                simp [execOp, ho, Instr.storeAt, hav, Instr.sureAddr, this]
              have hob' : obF (setN (some ⟨ob.e, ob.t, setN y ob.l ix⟩) obs id ++ [none]) = upd (obF obs) id (some ⟨ob.e, ob.t, setN y ob.l ix⟩) := by rw [obF_snoc_none, obF_set _ _ _ hlt]
              have hAft := written_after hg hobF (setN y ob.l ix) (length_setN _ _ _) h2 (by rw [hν]; exact h3) (by
                have := hrow.set hix (y := y) (o := offP path ob.t) (vs := cs) (by omega) (k2 cs hcs)
                rw [setN_eq]
                exact this)
              rw [hob'] at hK
              have := hK undef w' ν hAft trivial
              unfold Oper.wp
              rw [hrun]
              exact this
            · cases h
          · cases h
        · cases h
      · cases h
    · cases h
  · cases h

/-! ### append -/
theorem append_types {t t' : TypeId} {e e' : TypeId} (_ht : P.underlying t = some (.slice e)) (ht' : P.underlying t' = some (.slice e')) (ht0 : P.underlying t = some (.slice e)) (ty : TypeId) (args : Array Value) (w : World) :
    (Builtin.append_ #[t, t'] ty args).run P w = (Builtin.append_ #[t, t] ty args).run P w := by
  unfold Builtin.append_
  cases h0 : args[0]? with
  | none => rfl
  | some s => cases h1 : args[1]? with
    | none => rfl
    | some x =>
      cases s with
      | slice base n c =>
        simp only [List.getElem?_toArray, List.getElem?_cons_zero, List.getElem?_cons_succ, Sem.run_bind, run_underlying ht0, run_underlying ht', Result.andThen_ok]
      | _ => simp [run_underlying ht0]

theorem run_append_list {w : World} {M : Nat → Prop} (b0 : Nat → Prop) {t T' ty e e' : TypeId} {i : TypeInfo} {z : Value} {u : Ty} {eb : Nat} (ht : P.underlying t = some (.slice e)) (ht' : P.underlying T' = some (.slice e')) (hi : P.info? e = some i) (hz : i.zero = some z)
    (hsize : i.size = u.sz) (hby : i.bytes = eb) (hzc : z.cells.toList = u.zcells) (hsz : 0 < u.sz) (v : Value) (l m : List u.D) (xs : List Value) (hown : owns b0 w e u.sz v l.length xs) (hrow : RepRow M w u l xs) {mv : Value} (hm : RepV M w (.list u) m mv)
    (h63 : l.length + m.length ≤ maxLen) (hbytes : (l.length + m.length) * eb ≤ 140737488355328) (hb0 : ∀ b, w.heap.size ≤ b → b0 b) :
    ∃ v' w' ys, (Builtin.append_ #[t, T'] ty #[v, mv]).run P w = .ok v' w' ∧ owns b0 w' e u.sz v' (l ++ m).length ys ∧ RepRow M w u (l ++ m) ys ∧ w.grownBy w' v.ownBlock ∧ (v'.ownBlock = v.ownBlock ∨ v'.ownBlock = some w.heap.size) := by
  obtain ⟨ho, cs, hm, rfl⟩ := hm
  have hz' := Rep.len _ _ _ (Rep.zcells M w u)
  have hzs : z.cells.size = u.sz := by rw [← Array.length_toList, hzc, hz']
  obtain ⟨A, c, ms, rfl, hrm, hcells⟩ := Rep.row hsz hm
  have hone : ∀ q ∈ ms, q.oneCell' = true := by
    intro q hq
    obtain ⟨j, hj, rfl⟩ := List.getElem_of_mem hq
    have hd : j / u.sz < m.length := by rw [hrm.1] at hj; exact (Nat.div_lt_iff_lt_mul hsz).2 hj
    have h1 := hrm.2 (j / u.sz) _ (List.getElem?_eq_getElem hd)
    have h2 := Rep.one _ _ _ h1 ms[j]
    apply h2
    have : (seg ms (j / u.sz * u.sz) u.sz)[j % u.sz]? = some ms[j] := by
      rw [seg_getElem, if_pos (Nat.mod_lt _ hsz)]
      have e : j / u.sz * u.sz + j % u.sz = j := by rw [Nat.mul_comm]; exact Nat.div_add_mod j u.sz
      rw [e]
      exact List.getElem?_eq_getElem hj
    exact List.mem_of_getElem? this
  have hv : ofCells (.list u) [Value.slice A m.length c] = .slice A m.length c := by simp [ofCells, Ty.isSt]
  rw [hv, append_types ht ht' ht]
  cases A with
  | some a =>
    obtain ⟨v', w', h1, h2, h3, _, h5⟩ := run_append_own_at (P := P) w 0 t ty e i z u.sz eb ht hi hz hsize hby hzs hsz v l.length xs hown.1 a m.length c ms hrm.1 (fun j q hj => by
      obtain ⟨a', e, h⟩ := hcells j q hj
      simp only [Option.some.injEq] at e
      subst e
      exact h) hone h63 hbytes (Nat.zero_le _)
    exact ⟨v', w', _, h1, ⟨by rw [List.length_append]; exact h2, fun b hb => by
      rcases h5 with h5 | h5
      · exact hown.2 b (by rw [← h5]; exact hb)
      · rw [h5] at hb
        simp only [Option.some.injEq] at hb
        exact hb0 b (by omega)⟩, hrow.append hrm, h3, h5⟩
  | none =>
    have hm0 : ms = [] := by
      cases ms with
      | nil => rfl
      | cons q r =>
        obtain ⟨a, e, _⟩ := hcells 0 q rfl
        cases e
    have hml : m.length = 0 := by
      have h0 : m.length * u.sz = 0 := by rw [← hrm.1, hm0]; rfl
      rcases Nat.mul_eq_zero.1 h0 with h | h
      · exact h
      · omega
    have hmn : m = [] := List.eq_nil_of_length_eq_zero hml
    subst hmn
    refine ⟨v, w, xs, ?_, by simpa using hown, by simpa using hrow, ⟨rfl, rfl, rfl, Nat.le_refl _, fun _ _ _ => rfl⟩, .inl rfl⟩
    rcases hown.1.2 with ⟨rfl, hn⟩ | ⟨g, cap, cur, rfl, _, _, hnc, _⟩
    · simp [Builtin.append_, run_underlying ht, sizeOf, typeInfo, hi, Builtin.lenOf, Builtin.firstCells]
    · simp [Builtin.append_, run_underlying ht, sizeOf, typeInfo, hi, Builtin.lenOf, Builtin.firstCells, hnc, storeCells]

def killL (obs : List (Option Ob)) : Option Nat → List (Option Ob)
  | some id => setN none obs id
  | none => obs
def killF (obs : Obs) : Option Nat → Obs
  | some id => upd obs id none
  | none => obs

/-- An own row is behind its number no longer; what it has become lies behind a new one. -/
theorem moved_after {M0 : Nat → Prop} {b0 : Nat → Prop} {ν : Nat → Value} {obs : List (Option Ob)} {w w' : World} (hg : Good M0 b0 ν (obF obs) w) (dead : Option Nat) (v : Value)
    (hdead : ∀ id, dead = some id → ∃ ob, obF obs id = some ob ∧ v = ν id) (hnil : dead = none → v.ownBlock = none) (h3 : w.grownBy w' v.ownBlock) (hvb : ∀ b, v.ownBlock = some b → b0 b)
    (nob : Option Ob) (v' : Value) (hnew : ∀ ob, nob = some ob → ob.t.ok false = true ∧ 0 < ob.t.sz ∧ ∃ ys, owns b0 w' ob.e ob.t.sz v' ob.l.length ys ∧ RepRow (Msum M0 ν (obF obs)) w ob.t ob.l ys)
    (h5 : v'.ownBlock = v.ownBlock ∨ v'.ownBlock = some w.heap.size) :
    After M0 b0 ν (fun id => if id = obs.length then v' else ν id) obs.length (obF obs) (upd (killF (obF obs) dead) obs.length nob) w w' := by
  generalize hobs1 : killF (obF obs) dead = obs1
  have hsub : ∀ id ob, obs1 id = some ob → obF obs id = some ob ∧ dead ≠ some id := by
    intro id ob h
    cases dead with
    | none => subst hobs1; exact ⟨h, by simp⟩
    | some d =>
      subst hobs1
      simp only [killF, upd] at h
      split at h
      · cases h
      · rename_i hne; exact ⟨h, by simp; exact fun e => hne e.symm⟩
  have hlt : ∀ id ob, obs1 id = some ob → id ≠ obs.length := by
    intro id ob h
    have := obF_lt (hsub id ob h).1
    omega
  have hvM : ∀ b, v.ownBlock = some b → Msum M0 ν (obF obs) b := by
    intro b hb
    cases dead with
    | none => rw [hnil rfl] at hb; cases hb
    | some d =>
      obtain ⟨ob, h1, h2⟩ := hdead d rfl
      exact .inr ⟨d, ob, h1, by rw [← h2]; exact hb⟩
  have hA := Agree.of_grown (M := Msum M0 ν (obF obs)) h3 (fun g e => hvM g e)
  have hM : ∀ b, b < w.heap.size → Msum M0 (fun id => if id = obs.length then v' else ν id) (upd obs1 obs.length nob) b → Msum M0 ν (obF obs) b := by
    rintro b hb (hm | ⟨j, oj, hj, hbj⟩)
    · exact .inl hm
    · by_cases e : j = obs.length
      · simp only [e, if_true] at hbj
        rcases h5 with h5 | h5
        · exact hvM b (by rw [← h5]; exact hbj)
        · rw [h5] at hbj; simp only [Option.some.injEq] at hbj; omega
      · simp only [upd, if_neg e] at hj
        simp only [if_neg e] at hbj
        exact .inr ⟨j, oj, (hsub j oj hj).1, hbj⟩
  have hother : ∀ j oj, obs1 j = some oj → ∀ b, v.ownBlock = some b → (ν j).ownBlock ≠ some b := by
    intro j oj hj b hb
    obtain ⟨h1, h2⟩ := hsub j oj hj
    cases dead with
    | none => rw [hnil rfl] at hb; cases hb
    | some d =>
      obtain ⟨ob, k1, k2⟩ := hdead d rfl
      exact hg.ne d j ob oj k1 h1 (fun e => h2 (by rw [e])) b (by rw [← k2]; exact hb)
  have hold : ∀ j oj, obs1 j = some oj → ∀ b, (ν j).ownBlock = some b → b < w.heap.size := by
    intro j oj hj b hb
    obtain ⟨_, _, ys, q, _⟩ := hg.ob j oj (hsub j oj hj).1
    exact (q.1.lt b hb).2
  refine ⟨fun id hid => if_neg (Nat.ne_of_lt hid), Beyond.of_grown h3 hg.hb hvb, ⟨hg.m0, fun b hle => hg.hb b (Nat.le_trans h3.size hle), fun j oj hj => ?_, fun i j oi oj hi hj hij b hbi => ?_⟩, fun av u hr => ?_⟩
  · by_cases e : j = obs.length
    · subst e
      simp only [upd, if_true] at hj
      obtain ⟨q1, q2, ys, q3, q4⟩ := hnew oj hj
      simp only [if_true]
      exact ⟨q1, q2, ys, q3, q4.next hA hM⟩
    · simp only [upd, if_neg e] at hj
      simp only [if_neg e]
      obtain ⟨q1, q2, ys, q3, q4⟩ := hg.ob j oj (hsub j oj hj).1
      refine ⟨q1, q2, ys, ⟨q3.1.kept h3 ?_, q3.2⟩, q4.next hA hM⟩
      cases hb : (ν j).ownBlock with
      | none => exact .inl rfl
      | some b => exact .inr (fun e => hother j oj hj b e.symm hb)
  · by_cases ei : i = obs.length
    · subst ei
      have ej : j ≠ obs.length := fun e => hij e.symm
      simp only [if_true] at hbi
      simp only [if_neg ej]
      simp only [upd, if_neg ej] at hj
      intro hbj
      rcases h5 with h5 | h5
      · exact hother j oj hj b (by rw [← h5]; exact hbi) hbj
      · rw [h5] at hbi
        simp only [Option.some.injEq] at hbi
        have := hold j oj hj b hbj
        omega
    · by_cases ej : j = obs.length
      · subst ej
        simp only [if_neg ei] at hbi
        simp only [if_true]
        simp only [upd, if_neg ei] at hi
        intro hbj
        rcases h5 with h5 | h5
        · exact hother i oi hi b (by rw [← h5]; exact hbj) hbi
        · rw [h5] at hbj
          simp only [Option.some.injEq] at hbj
          have := hold i oi hi b hbi
          omega
      · simp only [if_neg ei] at hbi
        simp only [if_neg ej]
        simp only [upd, if_neg ei] at hi
        simp only [upd, if_neg ej] at hj
        exact hg.ne i j oi oj (hsub i oi hi).1 (hsub j oj hj).1 hij b hbi
  · cases av with
    | bad => trivial
    | und => exact hr
    | nil => exact hr
    | val t z => exact RepV.next hA hM hr
    | tup l =>
      obtain ⟨vs, e, q1, q2⟩ := hr
      exact ⟨vs, e, q1, fun i d hi => by
        obtain ⟨u, hu, hr⟩ := q2 i d hi
        exact ⟨u, hu, RepV.next hA hM hr⟩⟩
    | own j =>
      have : j < obs.length := hr.1
      exact ⟨Nat.lt_succ_of_lt hr.1, by simp only [if_neg (show ¬ j = obs.length by omega)]; exact hr.2⟩
    | win j lo m =>
      have : j < obs.length := hr.1
      refine ⟨Nat.lt_succ_of_lt hr.1, fun oj hj => ?_⟩
      have e : ¬ j = obs.length := by omega
      simp only [upd, if_neg e] at hj
      simp only [if_neg e]
      exact hr.2 oj (hsub j oj hj).1
    | ptr j jx p =>
      have : j < obs.length := hr.1
      refine ⟨Nat.lt_succ_of_lt hr.1, fun oj hj => ?_⟩
      have e : ¬ j = obs.length := by omega
      simp only [upd, if_neg e] at hj
      simp only [if_neg e]
      exact hr.2 oj (hsub j oj hj).1
    | mem t z =>
      obtain ⟨q0, a', cs', e, q1, q2, q3, q4⟩ := hr
      exact ⟨q0, a', cs', e, Nat.lt_of_lt_of_le q1 h3.size, fun hm => q2 (hM _ q1 hm), Rep.next hA hM t z cs' q3, fun j u hj => hA.cell (by rw [block_add]; exact q2) (q4 j u hj)⟩
    | fn f => exact hr

theorem app_bound {n : Int} {eb : Nat} {k : Option R} {r : R} (h : effK.appK n eb k = some r) : k = some r ∧ n * eb ≤ 140737488355328 ∧ n ≤ 9223372036854775807 := by
  unfold effK.appK at h
  cases hb : (decide (n * eb ≤ 140737488355328) && decide (n ≤ 9223372036854775807)) <;> simp only [hb, cond_true, cond_false] at h
  · cases h
  · simp only [Bool.and_eq_true, decide_eq_true_eq] at hb
    exact ⟨h, hb.1, hb.2⟩

end Go.FK
