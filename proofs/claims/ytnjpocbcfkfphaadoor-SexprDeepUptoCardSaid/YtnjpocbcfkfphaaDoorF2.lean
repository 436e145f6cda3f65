import Derived.Test.YtnjpocbcfkfphaaDoorF1
import Derived.Maps.AppendAt
import Derived.Orders
import Derived.OrdersHeld

/- Operations that write: into a row of the call's own, and append to one. -/
namespace Go.FK
open Go.RowKit
variable {P : Program} {ρ : Operand → AV} {X R : Type}
structure After (M0 : Nat → Prop) (b0 : Nat → Prop) (ν ν' : Nat → Value) (n : Nat) (obs obs' : Obs) (w w' : World) : Prop where
  nu : ∀ id, id < n → ν' id = ν id
  below : Beyond b0 w w'
  good : Good M0 b0 ν' obs' w'
  keep : ∀ av v, RepA (Msum M0 ν obs) ν (· < n) obs w av v → RepA (Msum M0 ν' obs') ν' (· < n + 1) obs' w' av v
def obF (obs : List (Option Ob)) : Obs := nthD none obs
def EffSound (P : Program) (obs : List (Option Ob)) (ρ : Operand → AV) (op : Op) (av : AV) (obs' : List (Option Ob)) : Prop :=
  obs'.length = obs.length + 1 ∧ ∀ (M0 : Nat → Prop) (b0 : Nat → Prop) (ν : Nat → Value) (w : World) (a : Act) (o : Oper), o.op = op → Good M0 b0 ν (obF obs) w →
    (∀ x ∈ op.operands, RepA (Msum M0 ν (obF obs)) ν (· < obs.length) (obF obs) w (ρ x) (a.eval x)) →
    ∀ (next : Act → World → Prop) (Q : Exit → Act → World → Prop),
      (∀ v w' ν', After M0 b0 ν ν' obs.length (obF obs) (obF obs') w w' → RepA (Msum M0 ν' (obF obs')) ν' (· < obs.length + 1) (obF obs') w' av v → next (a.put o.dst v) w') → o.wp P a w next Q
theorem obF_snoc_none (obs : List (Option Ob)) : obF (obs ++ [none]) = obF obs := by
  funext id
  simp only [obF, nthD_eq, List.getD_eq_getElem?_getD]
  rcases Nat.lt_or_ge id obs.length with h | h
  · rw [List.getElem?_append_left h]
  · rw [List.getElem?_append_right h, List.getElem?_eq_none (l := obs) h]
    cases hk : id - obs.length with
    | zero => rfl
    | succ k => rfl
theorem obF_lt {obs : List (Option Ob)} {id : Nat} {ob : Ob} (h : obF obs id = some ob) : id < obs.length := by
  have := nthD_none obs id ob h
  rcases Nat.lt_or_ge id obs.length with h' | h'
  · exact h'
  · rw [List.getElem?_eq_none h'] at this; cases this
theorem obF_snoc (obs : List (Option Ob)) (o : Option Ob) : obF (obs ++ [o]) = upd (obF obs) obs.length o := by
  funext id
  simp only [obF, upd, nthD_eq, List.getD_eq_getElem?_getD]
  rcases Nat.lt_or_ge id obs.length with h | h
  · rw [List.getElem?_append_left h, if_neg (by omega)]
  · rw [List.getElem?_append_right h]
    by_cases e : id = obs.length
    · subst e; simp
    · rw [if_neg e, List.getElem?_eq_none (l := obs) h, List.getElem?_eq_none (by simp; omega)]
theorem obF_set (obs : List (Option Ob)) (id : Nat) (o : Option Ob) (h : id < obs.length) : obF (setN o obs id) = upd (obF obs) id o := by
  funext j
  simp only [obF, upd, nthD_setN]
  by_cases e : id = j
  · subst e; simp [h]
  · simp [e, show ¬ j = id from fun h => e h.symm]
theorem own_splice {w : World} {b0 : Nat → Prop} {e : TypeId} {sz : Nat} {v : Value} {n : Nat} {xs : List Value} (h : owns b0 w e sz v n xs) {g : Nat} (hg : v.ownBlock = some g) {o : Nat} {vs : List Value} (ho : o + vs.length ≤ xs.length) (h1 : ∀ u ∈ vs, u.oneCell' = true) :
    ∃ w', (storeCells ⟨g, o, none⟩ vs).run P w = .ok () w' ∧ owns b0 w' e sz v n (splice xs o vs) ∧ w.grownBy w' (some g) := by
  obtain ⟨⟨hl, h⟩, hB⟩ := h
  rcases h with ⟨rfl, _⟩ | ⟨g', cap, cur, rfl, hb, hh, hnc, hcm, hcs, htake⟩
  · simp [Value.ownBlock] at hg
  · have : g' = g := by simpa [Value.ownBlock] using hg
    subst this
    have hxs : xs.length ≤ cur.size := by rw [← htake]; simp; omega
    have hrun := run_storeCells_at P g' o e vs 0 cur w hh (by omega) h1
    simp only [Nat.add_zero] at hrun
    refine ⟨_, hrun, ⟨⟨by rw [splice_len _ _ _ ho]; exact hl, .inr ⟨g', cap, _, rfl, hb, setRow_heap w g' cur _ e _ hh, hnc, hcm, ?_, ?_⟩⟩, hB⟩, ⟨rfl, rfl, rfl, by simp, fun k _ hk => setRow_other w g' k _ (fun e => hk (by simp [e]))⟩⟩
    · simp; omega
    · have hnle : n * sz ≤ cur.toList.length := by rw [← hl]; simpa using hxs
      apply List.ext_getElem?
      intro j
      rw [splice_get _ _ _ ho, List.getElem?_take]
      have e1 : (cur.toList.take o ++ vs ++ cur.toList.drop (o + vs.length)).toArray.toList = splice cur.toList o vs := by simp [splice]
      rw [e1, splice_get _ _ _ (by simp; omega), ← htake]
      simp only [List.getElem?_take]
      by_cases c1 : j < n * sz
      · simp [c1]
      · rw [if_neg c1, if_neg c1, if_neg (by omega), if_neg (by omega)]
theorem run_storeVar {T : TypeId} {ti : TI} (h : TyOk P T ti) {M : Nat → Prop} {w : World} {x : ti.t.D} {cs : List Value} {v : Value} (hr : Rep M w ti.t x cs) (hv : v = ofCells ti.t cs) (a : Addr) (w1 : World) :
    (storeVar T a v).run P w1 = (storeCells a cs).run P w1 := by
  obtain ⟨i, hi, hsz, _⟩ := h.2.1
  have hc : v.cells = cs.toArray := by rw [hv]; exact ofCells_cells h.1 hr
  have hl := Rep.len _ _ _ hr
  unfold storeVar
  simp [run_sizeOf hi, hc, hl, hsz]
theorem changed_after {M0 : Nat → Prop} {b0 : Nat → Prop} {ν : Nat → Value} {obs : List (Option Ob)} {w w' : World} (hg : Good M0 b0 ν (obF obs) w) {id : Nat} {ob : Ob} (hobF : obF obs id = some ob) (l' : List ob.t.D) (hll : l'.length = ob.l.length)
    {ys : List Value} (h2 : ownsO b0 w' ob.e ob.t (ν id) ob.l.length ys) (h3 : w.grownBy w' (ν id).ownBlock) (hrow : RepRow (Msum M0 ν (obF obs)) w' ob.t l' ys) :
    After M0 b0 ν ν obs.length (obF obs) (upd (obF obs) id (some ⟨ob.e, ob.t, l'⟩)) w w' := by
  obtain ⟨hok, hsz, xs, how, _⟩ := hg.ob id ob hobF
  have hM : Msum M0 ν (upd (obF obs) id (some ⟨ob.e, ob.t, l'⟩)) = Msum M0 ν (obF obs) := by
    funext b
    apply propext
    constructor
    · rintro (hm | ⟨j, oj, hj, hb⟩)
      · exact .inl hm
      · unfold upd at hj
        split at hj
        · rename_i e; subst e; exact .inr ⟨j, ob, hobF, hb⟩
        · exact .inr ⟨j, oj, hj, hb⟩
    · rintro (hm | ⟨j, oj, hj, hb⟩)
      · exact .inl hm
      · by_cases e : j = id
        · subst e; exact .inr ⟨j, ⟨ob.e, ob.t, l'⟩, by simp [upd], hb⟩
        · exact .inr ⟨j, oj, by simp [upd, e, hj], hb⟩
  have hA := Agree.of_grown (M := Msum M0 ν (obF obs)) h3 (fun g e => .inr ⟨id, ob, hobF, e⟩)
  refine ⟨fun _ _ => rfl, Beyond.of_grown h3 hg.hb how.2, ⟨hg.m0, hg.gl.grown h3 how.2, fun b hle => hg.hb b (Nat.le_trans h3.size hle), fun j oj hj => ?_, fun i j oi oj hi hj hij b hbi => ?_⟩, fun av v' hr' => ?_⟩
  · rw [hM]
    by_cases e : j = id
    · subst e
      simp only [upd, if_true, Option.some.injEq] at hj
      subst hj
      exact ⟨hok, hsz, ys, by rw [hll]; exact h2, hrow⟩
    · simp only [upd, if_neg e] at hj
      obtain ⟨q1, q2, zs, q3, q4⟩ := hg.ob j oj hj
      refine ⟨q1, q2, zs, ⟨q3.1.kept h3 ?_, q3.2⟩, q4.next hA (fun _ _ h => h)⟩
      cases hb : (ν j).ownBlock with
      | none => exact .inl rfl
      | some b => exact .inr fun e2 => hg.ne id j ob oj hobF hj (fun h => e h.symm) b e2.symm hb
  · have hi' : ∃ oi', obF obs i = some oi' := by
      unfold upd at hi; split at hi
      · rename_i e; subst e; exact ⟨ob, hobF⟩
      · exact ⟨oi, hi⟩
    have hj' : ∃ oj', obF obs j = some oj' := by
      unfold upd at hj; split at hj
      · rename_i e; subst e; exact ⟨ob, hobF⟩
      · exact ⟨oj, hj⟩
    obtain ⟨oi', hi'⟩ := hi'
    obtain ⟨oj', hj'⟩ := hj'
    exact hg.ne i j oi' oj' hi' hj' hij b hbi
  · rw [hM]
    cases av with
    | bad => trivial
    | und => exact hr'
    | nil => exact hr'
    | val t z => exact RepV.next hA (fun _ _ h => h) hr'
    | tup l =>
      obtain ⟨vs, e, q1, q2⟩ := hr'
      exact ⟨vs, e, q1, fun i d hi => by
        obtain ⟨u, hu, hr⟩ := q2 i d hi
        exact ⟨u, hu, RepV.next hA (fun _ _ h => h) hr⟩⟩
    | tupo j l =>
      obtain ⟨q0, vs, e, q1, q3, q2⟩ := hr'
      exact ⟨Nat.lt_succ_of_lt q0, vs, e, q1, q3, fun i d hi => by
        obtain ⟨u, hu, hr⟩ := q2 i d hi
        exact ⟨u, hu, RepV.next hA (fun _ _ h => h) hr⟩⟩
    | own j => exact ⟨Nat.lt_succ_of_lt hr'.1, hr'.2⟩
    | ptr j jx p =>
      refine ⟨Nat.lt_succ_of_lt hr'.1, fun oj hj => ?_⟩
      by_cases e : j = id
      · subst e
        simp only [upd, if_true, Option.some.injEq] at hj
        subst hj
        obtain ⟨q1, g', n', c', q2, q3⟩ := hr'.2 ob hobF
        exact ⟨by rw [hll]; exact q1, g', n', c', q2, q3⟩
      · simp only [upd, if_neg e] at hj
        exact hr'.2 oj hj
    | win j lo m =>
      refine ⟨Nat.lt_succ_of_lt hr'.1, fun oj hj => ?_⟩
      by_cases e : j = id
      · subst e
        simp only [upd, if_true, Option.some.injEq] at hj
        subst hj
        obtain ⟨q0, q1, q2⟩ := hr'.2 ob hobF
        exact ⟨q0, by rw [hll]; exact q1, q2⟩
      · simp only [upd, if_neg e] at hj
        exact hr'.2 oj hj
    | mem t z =>
      obtain ⟨q0, a', cs', e, q1, q2, q3, q4⟩ := hr'
      exact ⟨q0, a', cs', e, Nat.lt_of_lt_of_le q1 h3.size, q2, Rep.next hA (fun _ _ h => h) t z cs' q3, fun j u hj => hA.cell (by rw [block_add]; exact q2) (q4 j u hj)⟩
    | fn f => exact hr'
    | tab k l =>
      obtain ⟨a', e, q1, q2, q3⟩ := hr'
      exact ⟨a', e, Nat.lt_of_lt_of_le q1 h3.size, q2, fun j u hj => hA.cell (by rw [block_add]; exact q2) (q3 j u hj)⟩
    | clo f j =>
      refine ⟨Nat.lt_succ_of_lt hr'.1, fun oj hj => ?_⟩
      by_cases e : j = id
      · subst e
        simp only [upd, if_true, Option.some.injEq] at hj
        subst hj
        obtain ⟨q1, g', n', c', q2, q3⟩ := hr'.2 ob hobF
        exact ⟨by rw [hll]; exact q1, g', n', c', q2, q3⟩
      · simp only [upd, if_neg e] at hj
        exact hr'.2 oj hj
theorem written_after {M0 : Nat → Prop} {b0 : Nat → Prop} {ν : Nat → Value} {obs : List (Option Ob)} {w w' : World} (hg : Good M0 b0 ν (obF obs) w) {id : Nat} {ob : Ob} (hobF : obF obs id = some ob) (l' : List ob.t.D) (hll : l'.length = ob.l.length)
    {ys : List Value} (h2 : ownsO b0 w' ob.e ob.t (ν id) ob.l.length ys) (h3 : w.grownBy w' (ν id).ownBlock) (hrow : RepRow (Msum M0 ν (obF obs)) w ob.t l' ys) :
    After M0 b0 ν ν obs.length (obF obs) (upd (obF obs) id (some ⟨ob.e, ob.t, l'⟩)) w w' :=
  changed_after hg hobF l' hll h2 h3 (hrow.next (Agree.of_grown (M := Msum M0 ν (obF obs)) h3 (fun _ e => .inr ⟨id, ob, hobF, e⟩)) (fun _ _ h => h))
def StoreSound (P : Program) (obs : List (Option Ob)) (ρ : Operand → AV) (op : Op) (id : Nat) : Prop :=
  ∀ (M0 : Nat → Prop) (b0 : Nat → Prop) (ν : Nat → Value) (w : World) (a : Act) (o : Oper), o.op = op → Good M0 b0 ν (obF obs) w →
    (∀ x ∈ op.operands, RepA (Msum M0 ν (obF obs)) ν (· < obs.length) (obF obs) w (ρ x) (a.eval x)) → ∃ w', (execOp a.eval o).run P w = .ok .skip w' ∧ w.grownBy w' (ν id).ownBlock
theorem store_full {E : Env X} (hty : ∀ T ti, E.ty T = some ti → TyOk P T ti) {cons : Bool} {obs : List (Option Ob)} {T : TypeId} {ad x : Operand} {K : AV → List (Option Ob) → Option R} {r : R}
    (h : effK E cons obs ρ (.store T ad x) K = some r) : ∃ av obs', K av obs' = some r ∧ EffSound P obs ρ (.store T ad x) av obs' ∧ ∃ id ix path, ρ ad = .ptr id ix path ∧ StoreSound P obs ρ (.store T ad x) id := by
  simp only [effK] at h
  split at h
  · rename_i id ix path hρ
    split at h
    · rename_i ob hob
      split at h
      · rename_i d hd
        split at h
        · rename_i hT
          split at h
          · rename_i v hv
            split at h
            · rename_i y hy
              obtain ⟨ti, hti, htd⟩ := isTy_ok hT
              have htok := hty T ti hti
              have hobF : obF obs id = some ob := hob
              have hlt := obF_lt hobF
              have key : ∀ (M0 : Nat → Prop) (b0 : Nat → Prop) (ν : Nat → Value) (w : World) (a : Act) (o : Oper), o.op = .store T ad x → Good M0 b0 ν (obF obs) w →
                  (∀ x_1 ∈ (Op.store T ad x).operands, RepA (Msum M0 ν (obF obs)) ν (· < obs.length) (obF obs) w (ρ x_1) (a.eval x_1)) →
                  ∃ w', (execOp a.eval o).run P w = .ok .skip w' ∧ w.grownBy w' (ν id).ownBlock ∧ After M0 b0 ν ν obs.length (obF obs) (upd (obF obs) id (some ⟨ob.e, ob.t, setN y ob.l ix⟩)) w w' := fun M0 b0 ν w a o ho hg hr => by
               have hx := hr ad (by simp [Op.operands])
               rw [hρ] at hx
               obtain ⟨hix, g, n, c, hν, hav⟩ := hx.2 ob hobF
               obtain ⟨hoko, hsz, xs, howo, hrow⟩ := hg.ob id ob hobF
               have hok := ok_getP hoko hd (by rw [← htd]; exact htok.1)
               have how := howo.row hok
               have hel := hrow.2 ix _ (nthD_some hix)
               obtain ⟨k1, k2⟩ := Rep.setP path v ob.t _ _ y hok hel hy
               have hvx := toDyn_rep hv (hr x (by simp [Op.operands]))
               obtain ⟨_, cs, hcs, hve⟩ := hvx
               have hlen := Rep.len _ _ _ hcs
               have hb := mul_le ix ob.l.length ob.t.sz hix
               have hxl := hrow.1
               have hvt : v.1 = ti.t := by
                 have hgp : ∀ (p : List Nat) (t : Ty) (z : t.D) (d : Dyn), getP p t z = some d → ∀ (v : Dyn) (y : t.D), setP p v t z = some y → v.1 = d.1 := by
                   intro p
                   induction p with
                   | nil =>
                     intro t z d hd v y hy
                     simp only [getP, Option.some.injEq] at hd
                     simp only [setP] at hy
                     obtain ⟨e, _⟩ := castD_eq hy
                     rw [e, ← hd]
                   | cons j p ih =>
                     intro t z d hd v y hy
                     cases t with
                     | st t =>
                       simp only [getP] at hd
                       simp only [setP] at hy
                       split at hd
                       · rename_i f hf
                         have aux : ∀ (t : Ty) (z y : t.D) (j : Nat) (f : Dyn), fieldG t z j = some f → setF t z j (setP p v) = some y → ∃ q, setP p v f.1 f.2 = some q := by
                           intro t
                           induction t with
                           | pair a b iha ihb =>
                             intro z y j f hf hy
                             cases j with
                             | zero =>
                               simp only [fieldG, Option.some.injEq] at hf
                               subst hf
                               simp only [setF] at hy
                               split at hy
                               · exact ⟨_, by assumption⟩
                               · cases hy
                             | succ j =>
                               simp only [fieldG] at hf
                               simp only [setF] at hy
                               split at hy
                               · exact ihb z.2 _ j f hf (by assumption)
                               · cases hy
                           | unit => intro z y j f hf; simp [fieldG] at hf
                           | _ =>
                             intro z y j f hf hy
                             cases j with
                             | zero =>
                               simp only [fieldG, Option.some.injEq] at hf
                               subst hf
                               simp only [setF] at hy
                               exact ⟨_, hy⟩
                             | succ j => simp [fieldG] at hf
                         obtain ⟨q, hq⟩ := aux t z y j f hf hy
                         exact ih f.1 f.2 d hd v q hq
                       · cases hd
                     | _ => simp [getP] at hd
                 rw [hgp path ob.t _ d hd v y hy, htd]
               obtain ⟨vt, vx⟩ := v
               simp only at hvt
               subst hvt
               simp only at hcs hve k1 k2 hlen
               obtain ⟨w', h1, h2, h3⟩ := own_splice (P := P) how (g := g) (by rw [hν]; rfl) (o := ix * ob.t.sz + offP path ob.t) (vs := cs) (by omega) (Rep.one _ _ _ hcs)
               have hrun : (execOp a.eval o).run P w = .ok .skip w' := by
                 have := run_storeVar htok hcs hve ⟨g, ix * ob.t.sz + offP path ob.t, none⟩ w
                 rw [h1] at this
                 simp [execOp, ho, Instr.storeAt, hav, Instr.sureAddr, this]
               exact ⟨w', hrun, by rw [hν]; exact h3, written_after hg hobF (setN y ob.l ix) (length_setN _ _ _) (h2.o hok) (by rw [hν]; exact h3) (by
                have := hrow.set hix (y := y) (o := offP path ob.t) (vs := cs) (by omega) (k2 cs hcs)
                rw [setN_eq]
                exact this)⟩
              have hob' : obF (setN (some ⟨ob.e, ob.t, setN y ob.l ix⟩) obs id ++ [none]) = upd (obF obs) id (some ⟨ob.e, ob.t, setN y ob.l ix⟩) := by rw [obF_snoc_none, obF_set _ _ _ hlt]
              refine ⟨_, _, h, ⟨by simp [length_setN], fun M0 b0 ν w a o ho hg hr next Q hK => ?_⟩, id, ix, path, hρ, fun M0 b0 ν w a o ho hg hr => ?_⟩
              · obtain ⟨w', hrun, _, hAft⟩ := key M0 b0 ν w a o ho hg hr
                rw [hob'] at hK
                have := hK undef w' ν hAft trivial
                unfold Oper.wp
                rw [hrun]
                exact this
              · obtain ⟨w', hrun, h3, _⟩ := key M0 b0 ν w a o ho hg hr
                exact ⟨w', hrun, h3⟩
            · cases h
          · cases h
        · cases h
      · cases h
    · cases h
  · cases h
theorem store_sound {E : Env X} (hty : ∀ T ti, E.ty T = some ti → TyOk P T ti) {cons : Bool} {obs : List (Option Ob)} {T : TypeId} {ad x : Operand} {K : AV → List (Option Ob) → Option R} {r : R}
    (h : effK E cons obs ρ (.store T ad x) K = some r) : ∃ av obs', K av obs' = some r ∧ EffSound P obs ρ (.store T ad x) av obs' := by
  obtain ⟨av, obs', h1, h2, _⟩ := store_full hty h
  exact ⟨av, obs', h1, h2⟩
theorem append_types {t t' : TypeId} {e e' : TypeId} (_ht : P.underlying t = some (.slice e)) (ht' : P.underlying t' = some (.slice e')) (ht0 : P.underlying t = some (.slice e)) (ty : TypeId) (args : Array Value) (w : World) :
    (Builtin.append_ #[t, t'] ty args).run P w = (Builtin.append_ #[t, t] ty args).run P w := by
  unfold Builtin.append_
  cases h0 : args[0]? with
  | none => rfl
  | some s => cases h1 : args[1]? with
    | none => rfl
    | some x =>
      cases s with
      | slice base n c =>
        simp only [List.getElem?_toArray, List.getElem?_cons_zero, List.getElem?_cons_succ, Sem.run_bind, run_underlying ht0, run_underlying ht', Result.andThen_ok]
      | _ => simp [run_underlying ht0]
theorem run_append_list {w : World} {M : Nat → Prop} (b0 : Nat → Prop) {t T' ty e e' : TypeId} {i : TypeInfo} {z : Value} {u : Ty} {eb : Nat} (ht : P.underlying t = some (.slice e)) (ht' : P.underlying T' = some (.slice e')) (hi : P.info? e = some i) (hz : i.zero = some z)
    (hsize : i.size = u.sz) (hby : i.bytes = eb) (hzc : z.cells.toList = u.zcells) (hsz : 0 < u.sz) (v : Value) (l m : List u.D) (xs : List Value) (hown : owns b0 w e u.sz v l.length xs) (hrow : RepRow M w u l xs) {mv : Value} (hm : RepV M w (.list u) m mv)
    (h63 : l.length + m.length ≤ maxLen) (hbytes : (l.length + m.length) * eb ≤ 140737488355328) (hb0 : ∀ b, w.heap.size ≤ b → b0 b) :
    ∃ v' w' ys, (Builtin.append_ #[t, T'] ty #[v, mv]).run P w = .ok v' w' ∧ owns b0 w' e u.sz v' (l ++ m).length ys ∧ RepRow M w u (l ++ m) ys ∧ w.grownBy w' v.ownBlock ∧ (v'.ownBlock = v.ownBlock ∨ v'.ownBlock = some w.heap.size) := by
  obtain ⟨ho, cs, hm, rfl⟩ := hm
  have hz' := Rep.len _ _ _ (Rep.zcells M w u)
  have hzs : z.cells.size = u.sz := by rw [← Array.length_toList, hzc, hz']
  obtain ⟨A, c, ms, rfl, hrm, hcells⟩ := Rep.row hsz hm
  have hone : ∀ q ∈ ms, q.oneCell' = true := by
    intro q hq
    obtain ⟨j, hj, rfl⟩ := List.getElem_of_mem hq
    have hd : j / u.sz < m.length := by rw [hrm.1] at hj; exact (Nat.div_lt_iff_lt_mul hsz).2 hj
    have h1 := hrm.2 (j / u.sz) _ (List.getElem?_eq_getElem hd)
    have h2 := Rep.one _ _ _ h1 ms[j]
    apply h2
    have : (seg ms (j / u.sz * u.sz) u.sz)[j % u.sz]? = some ms[j] := by
      rw [seg_getElem, if_pos (Nat.mod_lt _ hsz)]
      have e : j / u.sz * u.sz + j % u.sz = j := by rw [Nat.mul_comm]; exact Nat.div_add_mod j u.sz
      rw [e]
      exact List.getElem?_eq_getElem hj
    exact List.mem_of_getElem? this
  have hv : ofCells (.list u) [Value.slice A m.length c] = .slice A m.length c := by simp [ofCells, Ty.isSt]
  rw [hv, append_types ht ht' ht]
  cases A with
  | some a =>
    obtain ⟨v', w', h1, h2, h3, _, h5⟩ := run_append_own_at (P := P) w 0 t ty e i z u.sz eb ht hi hz hsize hby hzs hsz v l.length xs hown.1 a m.length c ms hrm.1 (fun j q hj => by
      obtain ⟨a', e, h⟩ := hcells j q hj
      simp only [Option.some.injEq] at e
      subst e
      exact h) hone h63 hbytes (Nat.zero_le _)
    exact ⟨v', w', _, h1, ⟨by rw [List.length_append]; exact h2, fun b hb => by
      rcases h5 with h5 | h5
      · exact hown.2 b (by rw [← h5]; exact hb)
      · rw [h5] at hb
        simp only [Option.some.injEq] at hb
        exact hb0 b (by omega)⟩, hrow.append hrm, h3, h5⟩
  | none =>
    have hm0 : ms = [] := by
      cases ms with
      | nil => rfl
      | cons q r =>
        obtain ⟨a, e, _⟩ := hcells 0 q rfl
        cases e
    have hml : m.length = 0 := by
      have h0 : m.length * u.sz = 0 := by rw [← hrm.1, hm0]; rfl
      rcases Nat.mul_eq_zero.1 h0 with h | h
      · exact h
      · omega
    have hmn : m = [] := List.eq_nil_of_length_eq_zero hml
    subst hmn
    refine ⟨v, w, xs, ?_, by simpa using hown, by simpa using hrow, ⟨rfl, rfl, rfl, Nat.le_refl _, fun _ _ _ => rfl⟩, .inl rfl⟩
    rcases hown.1.2 with ⟨rfl, hn⟩ | ⟨g, cap, cur, rfl, _, _, hnc, _⟩
    · simp [Builtin.append_, run_underlying ht, sizeOf, typeInfo, hi, Builtin.lenOf, Builtin.firstCells]
    · simp [Builtin.append_, run_underlying ht, sizeOf, typeInfo, hi, Builtin.lenOf, Builtin.firstCells, hnc, storeCells]
def killL (obs : List (Option Ob)) : Option Nat → List (Option Ob)
  | some id => setN none obs id
  | none => obs
def killF (obs : Obs) : Option Nat → Obs
  | some id => upd obs id none
  | none => obs
theorem moved_after {M0 : Nat → Prop} {b0 : Nat → Prop} {ν : Nat → Value} {obs : List (Option Ob)} {w w' : World} (hg : Good M0 b0 ν (obF obs) w) (dead : Option Nat) (v : Value)
    (hdead : ∀ id, dead = some id → ∃ ob, obF obs id = some ob ∧ v = ν id) (hnil : dead = none → v.ownBlock = none) (h3 : w.grownBy w' v.ownBlock) (hvb : ∀ b, v.ownBlock = some b → b0 b)
    (nob : Option Ob) (v' : Value) (hnew : ∀ ob, nob = some ob → okO ob.t = true ∧ 0 < ob.t.sz ∧ ∃ ys, ownsO b0 w' ob.e ob.t v' ob.l.length ys ∧ RepRow (Msum M0 ν (obF obs)) w ob.t ob.l ys)
    (h5 : v'.ownBlock = v.ownBlock ∨ v'.ownBlock = some w.heap.size) :
    After M0 b0 ν (fun id => if id = obs.length then v' else ν id) obs.length (obF obs) (upd (killF (obF obs) dead) obs.length nob) w w' := by
  generalize hobs1 : killF (obF obs) dead = obs1
  have hsub : ∀ id ob, obs1 id = some ob → obF obs id = some ob ∧ dead ≠ some id := by
    intro id ob h
    cases dead with
    | none => subst hobs1; exact ⟨h, by simp⟩
    | some d =>
      subst hobs1
      simp only [killF, upd] at h
      split at h
      · cases h
      · rename_i hne; exact ⟨h, by simp; exact fun e => hne e.symm⟩
  have hlt : ∀ id ob, obs1 id = some ob → id ≠ obs.length := by
    intro id ob h
    have := obF_lt (hsub id ob h).1
    omega
  have hvM : ∀ b, v.ownBlock = some b → Msum M0 ν (obF obs) b := by
    intro b hb
    cases dead with
    | none => rw [hnil rfl] at hb; cases hb
    | some d =>
      obtain ⟨ob, h1, h2⟩ := hdead d rfl
      exact .inr ⟨d, ob, h1, by rw [← h2]; exact hb⟩
  have hA := Agree.of_grown (M := Msum M0 ν (obF obs)) h3 (fun g e => hvM g e)
  have hM : ∀ b, b < w.heap.size → Msum M0 (fun id => if id = obs.length then v' else ν id) (upd obs1 obs.length nob) b → Msum M0 ν (obF obs) b := by
    rintro b hb (hm | ⟨j, oj, hj, hbj⟩)
    · exact .inl hm
    · by_cases e : j = obs.length
      · simp only [e, if_true] at hbj
        rcases h5 with h5 | h5
        · exact hvM b (by rw [← h5]; exact hbj)
        · rw [h5] at hbj; simp only [Option.some.injEq] at hbj; omega
      · simp only [upd, if_neg e] at hj
        simp only [if_neg e] at hbj
        exact .inr ⟨j, oj, (hsub j oj hj).1, hbj⟩
  have hother : ∀ j oj, obs1 j = some oj → ∀ b, v.ownBlock = some b → (ν j).ownBlock ≠ some b := by
    intro j oj hj b hb
    obtain ⟨h1, h2⟩ := hsub j oj hj
    cases dead with
    | none => rw [hnil rfl] at hb; cases hb
    | some d =>
      obtain ⟨ob, k1, k2⟩ := hdead d rfl
      exact hg.ne d j ob oj k1 h1 (fun e => h2 (by rw [e])) b (by rw [← k2]; exact hb)
  have hold : ∀ j oj, obs1 j = some oj → ∀ b, (ν j).ownBlock = some b → b < w.heap.size := by
    intro j oj hj b hb
    obtain ⟨_, _, ys, q, _⟩ := hg.ob j oj (hsub j oj hj).1
    exact (q.1.lt b hb).2
  refine ⟨fun id hid => if_neg (Nat.ne_of_lt hid), Beyond.of_grown h3 hg.hb hvb, ⟨hg.m0, hg.gl.grown h3 hvb, fun b hle => hg.hb b (Nat.le_trans h3.size hle), fun j oj hj => ?_, fun i j oi oj hi hj hij b hbi => ?_⟩, fun av u hr => ?_⟩
  · by_cases e : j = obs.length
    · subst e
      simp only [upd, if_true] at hj
      obtain ⟨q1, q2, ys, q3, q4⟩ := hnew oj hj
      simp only [if_true]
      exact ⟨q1, q2, ys, q3, q4.next hA hM⟩
    · simp only [upd, if_neg e] at hj
      simp only [if_neg e]
      obtain ⟨q1, q2, ys, q3, q4⟩ := hg.ob j oj (hsub j oj hj).1
      refine ⟨q1, q2, ys, ⟨q3.1.kept h3 ?_, q3.2⟩, q4.next hA hM⟩
      cases hb : (ν j).ownBlock with
      | none => exact .inl rfl
      | some b => exact .inr (fun e => hother j oj hj b e.symm hb)
  · by_cases ei : i = obs.length
    · subst ei
      have ej : j ≠ obs.length := fun e => hij e.symm
      simp only [if_true] at hbi
      simp only [if_neg ej]
      simp only [upd, if_neg ej] at hj
      intro hbj
      rcases h5 with h5 | h5
      · exact hother j oj hj b (by rw [← h5]; exact hbi) hbj
      · rw [h5] at hbi
        simp only [Option.some.injEq] at hbi
        have := hold j oj hj b hbj
        omega
    · by_cases ej : j = obs.length
      · subst ej
        simp only [if_neg ei] at hbi
        simp only [if_true]
        simp only [upd, if_neg ei] at hi
        intro hbj
        rcases h5 with h5 | h5
        · exact hother i oi hi b (by rw [← h5]; exact hbj) hbi
        · rw [h5] at hbj
          simp only [Option.some.injEq] at hbj
          have := hold i oi hi b hbi
          omega
      · simp only [if_neg ei] at hbi
        simp only [if_neg ej]
        simp only [upd, if_neg ei] at hi
        simp only [upd, if_neg ej] at hj
        exact hg.ne i j oi oj (hsub i oi hi).1 (hsub j oj hj).1 hij b hbi
  · cases av with
    | bad => trivial
    | und => exact hr
    | nil => exact hr
    | val t z => exact RepV.next hA hM hr
    | tup l =>
      obtain ⟨vs, e, q1, q2⟩ := hr
      exact ⟨vs, e, q1, fun i d hi => by
        obtain ⟨u, hu, hr⟩ := q2 i d hi
        exact ⟨u, hu, RepV.next hA hM hr⟩⟩
    | tupo j l =>
      obtain ⟨q0, vs, e, q1, q3, q2⟩ := hr
      have q0 : j < obs.length := q0
      exact ⟨Nat.lt_succ_of_lt q0, vs, e, q1, by simp only [if_neg (show ¬ j = obs.length by omega)]; exact q3, fun i d hi => by
        obtain ⟨u, hu, hr⟩ := q2 i d hi
        exact ⟨u, hu, RepV.next hA hM hr⟩⟩
    | own j =>
      have : j < obs.length := hr.1
      exact ⟨Nat.lt_succ_of_lt hr.1, by simp only [if_neg (show ¬ j = obs.length by omega)]; exact hr.2⟩
    | win j lo m =>
      have : j < obs.length := hr.1
      refine ⟨Nat.lt_succ_of_lt hr.1, fun oj hj => ?_⟩
      have e : ¬ j = obs.length := by omega
      simp only [upd, if_neg e] at hj
      simp only [if_neg e]
      exact hr.2 oj (hsub j oj hj).1
    | ptr j jx p =>
      have : j < obs.length := hr.1
      refine ⟨Nat.lt_succ_of_lt hr.1, fun oj hj => ?_⟩
      have e : ¬ j = obs.length := by omega
      simp only [upd, if_neg e] at hj
      simp only [if_neg e]
      exact hr.2 oj (hsub j oj hj).1
    | mem t z =>
      obtain ⟨q0, a', cs', e, q1, q2, q3, q4⟩ := hr
      exact ⟨q0, a', cs', e, Nat.lt_of_lt_of_le q1 h3.size, fun hm => q2 (hM _ q1 hm), Rep.next hA hM t z cs' q3, fun j u hj => hA.cell (by rw [block_add]; exact q2) (q4 j u hj)⟩
    | fn f => exact hr
    | tab k l =>
      obtain ⟨a', e, q1, q2, q3⟩ := hr
      exact ⟨a', e, Nat.lt_of_lt_of_le q1 h3.size, fun hm => q2 (hM _ q1 hm), fun j u hj => hA.cell (by rw [block_add]; exact q2) (q3 j u hj)⟩
    | clo f j =>
      have : j < obs.length := hr.1
      refine ⟨Nat.lt_succ_of_lt hr.1, fun oj hj => ?_⟩
      have e : ¬ j = obs.length := by omega
      simp only [upd, if_neg e] at hj
      simp only [if_neg e]
      exact hr.2 oj (hsub j oj hj).1
theorem changed_new {M0 : Nat → Prop} {b0 : Nat → Prop} {ν : Nat → Value} {obs : List (Option Ob)} {w w' : World} (hg : Good M0 b0 ν (obF obs) w) {id : Nat} {ob : Ob} (hobF : obF obs id = some ob) (l' : List ob.t.D) (hll : l'.length = ob.l.length)
    (nob : Ob) (v' : Value) (hv' : ∀ b, v'.ownBlock = some b → w.heap.size ≤ b)
    {ys : List Value} (h2 : ownsO b0 w' ob.e ob.t (ν id) ob.l.length ys) (h3 : w.grownBy w' (ν id).ownBlock) (hrow : RepRow (fun b => Msum M0 ν (obF obs) b ∨ v'.ownBlock = some b) w' ob.t l' ys)
    (hnew : okO nob.t = true ∧ 0 < nob.t.sz ∧ ∃ zs, ORow w' nob.e nob.t v' nob.l.length zs ∧ RepRow (fun b => Msum M0 ν (obF obs) b ∨ v'.ownBlock = some b) w' nob.t nob.l zs) :
    After M0 b0 ν (fun id => if id = obs.length then v' else ν id) obs.length (obF obs) (upd (upd (obF obs) id (some ⟨ob.e, ob.t, l'⟩)) obs.length (some nob)) w w' ∧
      (∀ b, Msum M0 (fun id => if id = obs.length then v' else ν id) (upd (upd (obF obs) id (some ⟨ob.e, ob.t, l'⟩)) obs.length (some nob)) b → Msum M0 ν (obF obs) b ∨ v'.ownBlock = some b) := by
  obtain ⟨hok, hsz, xs, how, _⟩ := hg.ob id ob hobF
  have hidlt := obF_lt hobF
  generalize hobs1 : upd (obF obs) id (some ⟨ob.e, ob.t, l'⟩) = obs1
  have hsub : ∀ j oj, obs1 j = some oj → ∃ oj', obF obs j = some oj' := by
    intro j oj h
    subst hobs1
    unfold upd at h
    split at h
    · rename_i e; subst e; exact ⟨ob, hobF⟩
    · exact ⟨oj, h⟩
  have hMs : ∀ b, Msum M0 (fun id => if id = obs.length then v' else ν id) (upd obs1 obs.length (some nob)) b → Msum M0 ν (obF obs) b ∨ v'.ownBlock = some b := by
    rintro b (hm | ⟨j, oj, hj, hbj⟩)
    · exact .inl (.inl hm)
    · by_cases e : j = obs.length
      · simp only [e, if_true] at hbj
        exact .inr hbj
      · simp only [upd, if_neg e] at hj
        simp only [if_neg e] at hbj
        obtain ⟨oj', hj'⟩ := hsub j oj hj
        exact .inl (.inr ⟨j, oj', hj', hbj⟩)
  have hM : ∀ b, b < w.heap.size → Msum M0 (fun id => if id = obs.length then v' else ν id) (upd obs1 obs.length (some nob)) b → Msum M0 ν (obF obs) b := by
    intro b hb hm
    rcases hMs b hm with h | h
    · exact h
    · have := hv' b h; omega
  have hA := Agree.of_grown (M := Msum M0 ν (obF obs)) h3 (fun g e => .inr ⟨id, ob, hobF, e⟩)
  have hold : ∀ j oj, obs1 j = some oj → ∀ b, (ν j).ownBlock = some b → b < w.heap.size := by
    intro j oj hj b hb
    obtain ⟨oj', hj'⟩ := hsub j oj hj
    obtain ⟨_, _, ys, q, _⟩ := hg.ob j oj' hj'
    exact (q.1.lt b hb).2
  refine ⟨⟨fun id hid => if_neg (Nat.ne_of_lt hid), Beyond.of_grown h3 hg.hb how.2, ⟨hg.m0, hg.gl.grown h3 how.2, fun b hle => hg.hb b (Nat.le_trans h3.size hle), fun j oj hj => ?_, fun i j oi oj hi hj hij b hbi => ?_⟩, fun av u hr => ?_⟩, hMs⟩
  · by_cases e : j = obs.length
    · subst e
      simp only [upd, if_true, Option.some.injEq] at hj
      subst hj
      obtain ⟨q1, q2, zs, q3, q4⟩ := hnew
      simp only [if_true]
      exact ⟨q1, q2, zs, ⟨q3, fun b hb => hg.hb b (hv' b hb)⟩, q4.next (Agree.refl _ _) (fun b _ hb => hMs b hb)⟩
    · simp only [upd, if_neg e] at hj
      simp only [if_neg e]
      subst hobs1
      by_cases e2 : j = id
      · subst e2
        simp only [upd, if_true, Option.some.injEq] at hj
        subst hj
        exact ⟨hok, hsz, ys, by rw [hll]; exact h2, hrow.next (Agree.refl _ _) (fun b _ hb => hMs b hb)⟩
      · simp only [upd, if_neg e2] at hj
        obtain ⟨q1, q2, zs, q3, q4⟩ := hg.ob j oj hj
        refine ⟨q1, q2, zs, ⟨q3.1.kept h3 ?_, q3.2⟩, q4.next hA hM⟩
        cases hb : (ν j).ownBlock with
        | none => exact .inl rfl
        | some b => exact .inr fun e3 => hg.ne id j ob oj hobF hj (fun h => e2 h.symm) b e3.symm hb
  · by_cases ei : i = obs.length
    · subst ei
      have ej : j ≠ obs.length := fun e => hij e.symm
      simp only [if_true] at hbi
      simp only [if_neg ej]
      simp only [upd, if_neg ej] at hj
      intro hbj
      have := hold j oj hj b hbj
      have := hv' b hbi
      omega
    · by_cases ej : j = obs.length
      · subst ej
        simp only [if_neg ei] at hbi
        simp only [if_true]
        simp only [upd, if_neg ei] at hi
        intro hbj
        have := hold i oi hi b hbi
        have := hv' b hbj
        omega
      · simp only [if_neg ei] at hbi
        simp only [if_neg ej]
        simp only [upd, if_neg ei] at hi
        simp only [upd, if_neg ej] at hj
        obtain ⟨oi', hi'⟩ := hsub i oi hi
        obtain ⟨oj', hj'⟩ := hsub j oj hj
        exact hg.ne i j oi' oj' hi' hj' hij b hbi
  · have key : ∀ j oj, j < obs.length → upd obs1 obs.length (some nob) j = some oj → ∃ oj', obF obs j = some oj' ∧ oj'.l.length = oj.l.length ∧ oj'.t = oj.t := by
      intro j oj hlt hj
      have e : ¬ j = obs.length := by omega
      simp only [upd, if_neg e] at hj
      subst hobs1
      by_cases e2 : j = id
      · subst e2
        simp only [upd, if_true, Option.some.injEq] at hj
        subst hj
        exact ⟨ob, hobF, hll.symm, rfl⟩
      · simp only [upd, if_neg e2] at hj
        exact ⟨oj, hj, rfl, rfl⟩
    cases av with
    | bad => trivial
    | und => exact hr
    | nil => exact hr
    | val t z => exact RepV.next hA hM hr
    | tup l =>
      obtain ⟨vs, e, q1, q2⟩ := hr
      exact ⟨vs, e, q1, fun i d hi => by
        obtain ⟨u, hu, hr⟩ := q2 i d hi
        exact ⟨u, hu, RepV.next hA hM hr⟩⟩
    | tupo j l =>
      obtain ⟨q0, vs, e, q1, q3, q2⟩ := hr
      have q0 : j < obs.length := q0
      exact ⟨Nat.lt_succ_of_lt q0, vs, e, q1, by simp only [if_neg (show ¬ j = obs.length by omega)]; exact q3, fun i d hi => by
        obtain ⟨u, hu, hr⟩ := q2 i d hi
        exact ⟨u, hu, RepV.next hA hM hr⟩⟩
    | own j =>
      have : j < obs.length := hr.1
      exact ⟨Nat.lt_succ_of_lt hr.1, by simp only [if_neg (show ¬ j = obs.length by omega)]; exact hr.2⟩
    | win j lo m =>
      have hlt : j < obs.length := hr.1
      refine ⟨Nat.lt_succ_of_lt hr.1, fun oj hj => ?_⟩
      obtain ⟨oj', k1, k2, k3⟩ := key j oj hlt hj
      simp only [if_neg (show ¬ j = obs.length by omega)]
      obtain ⟨p0, p1, p2⟩ := hr.2 oj' k1
      exact ⟨p0, by rw [← k2]; exact p1, by rw [← k3]; exact p2⟩
    | ptr j jx p =>
      have hlt : j < obs.length := hr.1
      refine ⟨Nat.lt_succ_of_lt hr.1, fun oj hj => ?_⟩
      obtain ⟨oj', k1, k2, k3⟩ := key j oj hlt hj
      simp only [if_neg (show ¬ j = obs.length by omega)]
      obtain ⟨p1, p2⟩ := hr.2 oj' k1
      exact ⟨by rw [← k2]; exact p1, by rw [← k3]; exact p2⟩
    | mem t z =>
      obtain ⟨q0, a', cs', e, q1, q2, q3, q4⟩ := hr
      exact ⟨q0, a', cs', e, Nat.lt_of_lt_of_le q1 h3.size, fun hm => q2 (hM _ q1 hm), Rep.next hA hM t z cs' q3, fun j u hj => hA.cell (by rw [block_add]; exact q2) (q4 j u hj)⟩
    | fn f => exact hr
    | tab k l =>
      obtain ⟨a', e, q1, q2, q3⟩ := hr
      exact ⟨a', e, Nat.lt_of_lt_of_le q1 h3.size, fun hm => q2 (hM _ q1 hm), fun j u hj => hA.cell (by rw [block_add]; exact q2) (q3 j u hj)⟩
    | clo f j =>
      have hlt : j < obs.length := hr.1
      refine ⟨Nat.lt_succ_of_lt hr.1, fun oj hj => ?_⟩
      obtain ⟨oj', k1, k2, k3⟩ := key j oj hlt hj
      simp only [if_neg (show ¬ j = obs.length by omega)]
      obtain ⟨p1, p2⟩ := hr.2 oj' k1
      exact ⟨by rw [← k2]; exact p1, p2⟩
theorem app_bound {n : Nat} {eb : Nat} {k : Option R} {r : R} (h : effK.appK n eb k = some r) : k = some r ∧ (n : Int) * eb ≤ 140737488355328 ∧ (n : Int) ≤ 9223372036854775807 := by
  unfold effK.appK at h
  cases hb : (Nat.ble (n * eb) 140737488355328 && Nat.ble n 9223372036854775807) <;> simp only [hb, cond_true, cond_false] at h
  · cases h
  · simp only [Bool.and_eq_true, Nat.ble_eq] at hb
    refine ⟨h, ?_, by omega⟩
    rw [← Int.natCast_mul]
    omega
end Go.FK


/- append and copy; all operations that write. -/
namespace Go.FK
open Go.RowKit
variable {P : Program} {ρ : Operand → AV} {X R : Type}
theorem two_args {α β : Type} {f : α → β} {a : Array α} {b c : β} (e : a.toList.map f = [b, c]) : ∃ x y, a = #[x, y] ∧ f x = b ∧ f y = c := by
  obtain ⟨l⟩ := a
  match l, e with
  | [x, y], e => simp only [List.map_cons, List.map_nil, List.cons.injEq, and_true] at e; exact ⟨x, y, rfl, e.1, e.2⟩
theorem append_end {E : Env X} (hty : ∀ T ti, E.ty T = some ti → TyOk P T ti) {cons : Bool} {obs : List (Option Ob)} {sx xx : Operand} {T T' : TypeId} {t t' : Ty} {el el' eb eb' : Nat} {K : AV → List (Option Ob) → Option R} {r : R}
    (hT : E.ty T = some ⟨.list t, el, eb⟩) (hT' : E.ty T' = some ⟨.list t', el', eb'⟩) (hsz : 0 < t.sz) (dead : Option Nat) (l m : List t.D)
    (hx : ∀ (M : Nat → Prop) (ν : Nat → Value) (dom : Nat → Prop) (o : Obs) (w : World) (v : Value), RepA M ν dom o w (ρ xx) v → RepV M w (.list t) m v)
    (hs : ∀ (M0 : Nat → Prop) (b0 : Nat → Prop) (ν : Nat → Value) (w : World) (v : Value), Good M0 b0 ν (obF obs) w → RepA (Msum M0 ν (obF obs)) ν (· < obs.length) (obF obs) w (ρ sx) v →
      ∃ xs, owns b0 w el t.sz v l.length xs ∧ RepRow (Msum M0 ν (obF obs)) w t l xs ∧ (∀ id, dead = some id → ∃ ob, obF obs id = some ob ∧ v = ν id) ∧ (dead = none → v.ownBlock = none))
    (hb : ((l.length : Int) + m.length) * eb ≤ 140737488355328) (h63 : (l.length : Int) + m.length ≤ 9223372036854775807)
    (hK : (bif cons then K (.val (.list t) (l ++ m)) (killL obs dead ++ [none])
      else K (.own obs.length) (killL obs dead ++ [some ⟨el, t, l ++ m⟩])) = some r) (hdl : ∀ id, dead = some id → id < obs.length) :
    ∃ av obs', K av obs' = some r ∧ EffSound P obs ρ (.call ⟨.builtin .append, #[sx, xx], #[T, T']⟩) av obs' := by
  obtain ⟨hu, ⟨i, hi, hisz, hib, z, hz, hzc⟩, hok⟩ := (hty T _ hT).list rfl
  obtain ⟨hu', _, _⟩ := (hty T' _ hT').list rfl
  simp only at hu hi hib hu'
  have hb' : (l.length + m.length) * eb ≤ 140737488355328 := by
    have : (((l.length + m.length) * eb : Nat) : Int) ≤ 140737488355328 := by push_cast; exact hb
    omega
  have h63' : l.length + m.length ≤ maxLen := by simp only [maxLen]; omega
  have hlen : ∀ o : Option Ob, (killL obs dead ++ [o]).length = obs.length + 1 := by
    intro o
    cases dead with
    | none => simp [killL]
    | some d => simp [killL, length_setN]
  have hF : ∀ o : Option Ob, obF (killL obs dead ++ [o]) = upd (killF (obF obs) dead) obs.length o := by
    intro o
    cases dead with
    | none => exact obF_snoc obs o
    | some d =>
      have := obF_snoc (setN none obs d) o
      rw [length_setN, obF_set _ _ _ (hdl d rfl)] at this
      exact this
  have key : ∀ (M0 : Nat → Prop) (b0 : Nat → Prop) (ν : Nat → Value) (w : World) (a : Act) (o : Oper), o.op = .call ⟨.builtin .append, #[sx, xx], #[T, T']⟩ → Good M0 b0 ν (obF obs) w →
      (∀ x ∈ (Op.call ⟨.builtin .append, #[sx, xx], #[T, T']⟩).operands, RepA (Msum M0 ν (obF obs)) ν (· < obs.length) (obF obs) w (ρ x) (a.eval x)) →
      ∃ v' w' ys, (execOp a.eval o).run P w = .ok (.value v') w' ∧ owns b0 w' el t.sz v' (l ++ m).length ys ∧ RepRow (Msum M0 ν (obF obs)) w t (l ++ m) ys ∧
        ∀ nob : Option Ob, (∀ ob, nob = some ob → ob = ⟨el, t, l ++ m⟩) →
          After M0 b0 ν (fun id => if id = obs.length then v' else ν id) obs.length (obF obs) (upd (killF (obF obs) dead) obs.length nob) w w' ∧
          (∀ b, v'.ownBlock = some b → ¬ Msum M0 (fun id => if id = obs.length then v' else ν id) (upd (killF (obF obs) dead) obs.length none) b) := by
    intro M0 b0 ν w a o ho hg hr
    have hs' := hr sx (by simp [Op.operands, Call.operands])
    have hx' := hr xx (by simp [Op.operands, Call.operands])
    obtain ⟨xs, how, hrow, hd1, hd2⟩ := hs M0 b0 ν w _ hg hs'
    obtain ⟨v', w', ys, h1, h2, h2', h3, h5⟩ := run_append_list (P := P) b0 (ty := o.type) hu hu' hi hz hisz hib hzc hsz (a.eval sx) l m xs how hrow (hx _ _ _ _ _ _ hx') h63' hb' hg.hb
    refine ⟨v', w', ys, by simp [execOp, ho, resolve, invoke, builtin, h1], h2, h2', fun nob hnob => ?_⟩
    have haf := fun nob (hn : ∀ ob, nob = some ob → ob = (⟨el, t, l ++ m⟩ : Ob)) => moved_after hg dead (a.eval sx) hd1 hd2 h3 how.2 nob v' (fun ob e => by
      rw [hn ob e]; exact ⟨okO_of hok, hsz, ys, h2.o hok, h2'⟩) h5
    refine ⟨haf nob hnob, fun b hb hm => ?_⟩
    have hA := haf (some ⟨el, t, l ++ m⟩) (fun ob e => by simpa using e.symm)
    rcases hm with hm | ⟨j, oj, hj, hbj⟩
    · exact hg.m0 b hm (h2.2 b hb)
    · by_cases e : j = obs.length
      · simp [upd, e] at hj
      · refine hA.good.ne obs.length j ⟨el, t, l ++ m⟩ oj (by simp [upd]) ?_ (fun h => e h.symm) b (by simpa using hb) hbj
        simp only [upd, if_neg e] at hj ⊢
        exact hj
  cases hc : cons <;> simp only [hc, cond_true, cond_false] at hK
  · refine ⟨_, _, hK, hlen _, fun M0 b0 ν w a o ho hg hr next Q hn => ?_⟩
    obtain ⟨v', w', ys, k1, k2, k3, k4⟩ := key M0 b0 ν w a o ho hg hr
    rw [hF] at hn
    exact wp_value k1 (hn v' w' _ (k4 _ (fun ob e => by simpa using e.symm)).1 ⟨Nat.lt_succ_self _, by simp⟩)
  · refine ⟨_, _, hK, hlen _, fun M0 b0 ν w a o ho hg hr next Q hn => ?_⟩
    obtain ⟨v', w', ys, k1, k2, k3, k4⟩ := key M0 b0 ν w a o ho hg hr
    rw [hF] at hn
    obtain ⟨hA, hne⟩ := k4 none (fun ob e => by cases e)
    refine wp_value k1 (hn v' w' _ hA ?_)
    have hA2 := (k4 (some ⟨el, t, l ++ m⟩) (fun ob e => by simpa using e.symm)).1
    obtain ⟨_, _, zs, q3, q4⟩ := hA2.good.ob obs.length ⟨el, t, l ++ m⟩ (by simp [upd])
    simp only [if_true] at q3
    have q3 := q3.row hok
    refine ⟨by simpa [Ty.ok] using hok, [v'], RepRow.list q3.1 (q4.next (Agree.refl _ _) (fun b _ hm => ?_)) hne, by simp [ofCells, Ty.isSt]⟩
    rcases hm with hm | ⟨j, oj, hj, hbj⟩
    · exact .inl hm
    · by_cases e : j = obs.length
      · simp [upd, e] at hj
      · refine .inr ⟨j, oj, ?_, hbj⟩
        simp only [upd, if_neg e] at hj ⊢
        exact hj
theorem repA_list {ρx : AV} {t u : Ty} {l : List u.D} {m : List t.D} (h1 : toDyn (.list t) ρx = some ⟨.list u, l⟩) (h2 : castD (.list u) (.list t) l = some m) (M : Nat → Prop) (ν : Nat → Value) (dom : Nat → Prop) (o : Obs) (w : World) (v : Value)
    (hr : RepA M ν dom o w ρx v) : RepV M w (.list t) m v := by
  have := toDyn_rep h1 hr
  obtain ⟨e, he⟩ := castD_eq h2
  have e' : u = t := by simpa using e
  subst e'
  simp only at he
  subst he
  exact this
theorem append_sound {E : Env X} (hty : ∀ T ti, E.ty T = some ti → TyOk P T ti) {cons : Bool} {obs : List (Option Ob)} {xs : Array Operand} {ats : Array TypeId} {K : AV → List (Option Ob) → Option R} {r : R}
    (h : effK E cons obs ρ (.call ⟨.builtin .append, xs, ats⟩) K = some r) : ∃ av obs', K av obs' = some r ∧ EffSound P obs ρ (.call ⟨.builtin .append, xs, ats⟩) av obs' := by
  simp only [effK] at h
  split at h
  · rename_i s x t el eb t' el' eb' _ h1 h2
    obtain ⟨sx, xx, rfl, hs, hx⟩ := two_args h1
    obtain ⟨T, T', rfl, hT, hT'⟩ := two_args h2
    split at h
    · cases h
    · rename_i hc
      simp only [Bool.or_eq_true, decide_eq_true_eq, Bool.not_eq_true', decide_eq_false_iff_not, not_or] at hc
      have hsz : 0 < t.sz := by omega
      obtain ⟨hu, _, hok⟩ := (hty T _ hT).list rfl
      split at h
      · rename_i u m hm
        split at h
        · rename_i m' hm'
          have hxx : ∀ (M : Nat → Prop) (ν : Nat → Value) (dom : Nat → Prop) (o : Obs) (w : World) (v : Value), RepA M ν dom o w (ρ xx) v → RepV M w (.list t) m' v := fun M ν dom o w v hr => repA_list (by rw [hx]; exact hm) hm' M ν dom o w v hr
          split at h
          · obtain ⟨hK, hb, h63⟩ := app_bound h
            refine append_end hty hT hT' hsz none [] m' hxx (fun M0 b0 ν w v hg hr => ?_) (by simpa using hb) (by simpa using h63) (by simpa [killL] using hK) (fun id e => by cases e)
            rw [hs] at hr
            have : v = .slice none 0 0 := hr
            subst this
            exact ⟨[], ⟨World.ownsRow_nil w 0 el t.sz, fun b hb => by cases hb⟩, RepRow.nil _ _ _, (fun id e => by cases e), fun _ => rfl⟩
          · rename_i id
            split at h
            · rename_i ob hob
              split at h
              · rename_i l hl
                split at h
                · rename_i hoe
                  obtain ⟨hK, hb, h63⟩ := app_bound h
                  have hobF : obF obs id = some ob := hob
                  refine append_end hty hT hT' hsz (some id) l m' hxx (fun M0 b0 ν w v hg hr => ?_) (by simpa using hb) (by simpa using h63) hK (fun id' e => by simp only [Option.some.injEq] at e; subst e; exact obF_lt hobF)
                  rw [hs] at hr
                  obtain ⟨_, rfl⟩ := hr
                  obtain ⟨_, _, ys, q3, q4⟩ := hg.ob id ob hobF
                  obtain ⟨e, he⟩ := castD_eq hl
                  obtain ⟨oe, ot, ol⟩ := ob
                  simp only at e he q3 q4 hoe
                  have e' : ot = t := by simpa using e
                  subst e'
                  simp only at he
                  subst he
                  subst hoe
                  exact ⟨ys, q3.row (by simpa [Ty.ok] using (hty T _ hT).1), q4, (fun id' e => by simp only [Option.some.injEq] at e; subst e; exact ⟨_, hobF, rfl⟩), fun e => by cases e⟩
                · cases h
              · cases h
            · cases h
          · cases h
        · cases h
      · cases h
  · simp at *
  · simp at *
  · cases h
theorem take_drop_len {α : Type} (m l : List α) : (m.take l.length ++ l.drop m.length).length = l.length := by
  simp only [List.length_append, List.length_take, List.length_drop]
  omega
theorem RepRow.over {M : Nat → Prop} {w : World} {t : Ty} (h1 : t.sz = 1) {l m : List t.D} {xs ms : List Value} (h : RepRow M w t l xs) (k : RepRow M w t m ms) :
    RepRow M w t (m.take l.length ++ l.drop m.length) (splice xs 0 (ms.take l.length)) := by
  have hx := h.1
  have hm := k.1
  rw [h1, Nat.mul_one] at hx hm
  have hsl : 0 + (ms.take l.length).length ≤ xs.length := by simp; omega
  refine ⟨by rw [splice_len _ _ _ hsl, hx, take_drop_len, h1, Nat.mul_one], fun i x hi => ?_⟩
  rw [h1, Nat.mul_one]
  by_cases c : i < min m.length l.length
  · have hx' : m[i]? = some x := by
      rw [List.getElem?_append_left (by simp; omega), List.getElem?_take, if_pos (by omega)] at hi
      exact hi
    have := k.2 i x hx'
    rw [h1, Nat.mul_one] at this
    have e : seg (splice xs 0 (ms.take l.length)) i 1 = seg ms i 1 := by
      apply List.ext_getElem?
      intro j
      rw [seg_getElem, seg_getElem, splice_get _ _ _ hsl]
      by_cases cj : j < 1
      · have : j = 0 := by omega
        subst this
        rw [if_pos cj, if_pos cj, if_neg (by omega), if_pos (by simp; omega), List.getElem?_take, if_pos (by omega)]
        simp
      · rw [if_neg cj, if_neg cj]
    rw [e]
    exact this
  · have hi' : l[i]? = some x := by
      rw [List.getElem?_append_right (by simp; omega), List.getElem?_drop] at hi
      have e : m.length + (i - (m.take l.length).length) = i := by
        simp only [List.length_take]
        by_cases c2 : m.length ≤ l.length
        · omega
        · exfalso
          have hlt : i - (List.take l.length m).length < (l.drop m.length).length ∨ (l.drop m.length)[i - (List.take l.length m).length]? = none := by
            rcases Nat.lt_or_ge (i - (List.take l.length m).length) (l.drop m.length).length with h | h
            · exact .inl h
            · exact .inr (List.getElem?_eq_none h)
          rcases hlt with h | h
          · simp at h; omega
          · rw [List.getElem?_drop] at h; rw [h] at hi; cases hi
      rw [e] at hi
      exact hi
    have := h.2 i x hi'
    rw [h1, Nat.mul_one] at this
    have hil : i < l.length := by
      rcases Nat.lt_or_ge i l.length with h | h
      · exact h
      · rw [List.getElem?_eq_none h] at hi'; cases hi'
    have e : seg (splice xs 0 (ms.take l.length)) i 1 = seg xs i 1 := by
      apply List.ext_getElem?
      intro j
      rw [seg_getElem, seg_getElem, splice_get _ _ _ hsl]
      by_cases cj : j < 1
      · have : j = 0 := by omega
        subst this
        rw [if_pos cj, if_pos cj, if_neg (by omega), if_neg (by simp; omega)]
      · rw [if_neg cj, if_neg cj]
    rw [e]
    exact this
theorem over_len {α : Type} {l m : List α} {lo n : Nat} (h : lo + n ≤ l.length) : (l.take lo ++ (m.take n ++ l.drop (lo + min m.length n))).length = l.length := by
  simp only [List.length_append, List.length_take, List.length_drop]
  omega
theorem RepRow.overAt {M : Nat → Prop} {w : World} {t : Ty} (h1 : t.sz = 1) {l m : List t.D} {xs ms : List Value} (h : RepRow M w t l xs) (k : RepRow M w t m ms) {lo n : Nat} (hb : lo + n ≤ l.length) :
    RepRow M w t (l.take lo ++ (m.take n ++ l.drop (lo + min m.length n))) (splice xs lo (ms.take n)) := by
  have hx := h.1
  have hm := k.1
  rw [h1, Nat.mul_one] at hx hm
  have hsl : lo + (ms.take n).length ≤ xs.length := by simp; omega
  refine ⟨by rw [splice_len _ _ _ hsl, hx, over_len hb, h1, Nat.mul_one], fun i x hi => ?_⟩
  rw [h1, Nat.mul_one]
  have hseg : ∀ j, (seg (splice xs lo (ms.take n)) i 1)[j]? = if j < 1 then (if i + j < lo then xs[i + j]? else if i + j < lo + (ms.take n).length then (ms.take n)[i + j - lo]? else xs[i + j]?) else none := fun j => by
    rw [seg_getElem, splice_get _ _ _ hsl]
  have hmt : (ms.take n).length = min m.length n := by simp only [List.length_take]; omega
  by_cases c1 : i < lo
  · have hi' : l[i]? = some x := by
      rw [List.getElem?_append_left (by simp; omega), List.getElem?_take, if_pos c1] at hi
      exact hi
    have := h.2 i x hi'
    rw [h1, Nat.mul_one] at this
    have e : seg (splice xs lo (ms.take n)) i 1 = seg xs i 1 := by
      apply List.ext_getElem?
      intro j
      rw [hseg, seg_getElem]
      by_cases cj : j < 1
      · rw [if_pos cj, if_pos cj, if_pos (by omega)]
      · rw [if_neg cj, if_neg cj]
    rw [e]; exact this
  · have hlt : (l.take lo).length = lo := by simp; omega
    rw [List.getElem?_append_right (by omega), hlt] at hi
    by_cases c2 : i < lo + min m.length n
    · have hi' : m[i - lo]? = some x := by
        rw [List.getElem?_append_left (by simp; omega), List.getElem?_take, if_pos (by omega)] at hi
        exact hi
      have := k.2 (i - lo) x hi'
      rw [h1, Nat.mul_one] at this
      have e : seg (splice xs lo (ms.take n)) i 1 = seg ms (i - lo) 1 := by
        apply List.ext_getElem?
        intro j
        rw [hseg, seg_getElem]
        by_cases cj : j < 1
        · rw [if_pos cj, if_pos cj, if_neg (by omega), if_pos (by omega), List.getElem?_take, if_pos (by omega)]
          congr 1
          omega
        · rw [if_neg cj, if_neg cj]
      rw [e]; exact this
    · have hmt' : (m.take n).length = min m.length n := by simp only [List.length_take]; omega
      have hi' : l[i]? = some x := by
        rw [List.getElem?_append_right (by omega), hmt', List.getElem?_drop] at hi
        rw [show lo + min m.length n + (i - lo - min m.length n) = i by omega] at hi
        exact hi
      have := h.2 i x hi'
      rw [h1, Nat.mul_one] at this
      have e : seg (splice xs lo (ms.take n)) i 1 = seg xs i 1 := by
        apply List.ext_getElem?
        intro j
        rw [hseg, seg_getElem]
        by_cases cj : j < 1
        · rw [if_pos cj, if_pos cj, if_neg (by omega), if_neg (by omega)]
        · rw [if_neg cj, if_neg cj]
      rw [e]; exact this
theorem copy_sound {E : Env X} (hty : ∀ T ti, E.ty T = some ti → TyOk P T ti) {cons : Bool} {obs : List (Option Ob)} {xs : Array Operand} {ats : Array TypeId} {K : AV → List (Option Ob) → Option R} {r : R}
    (h : effK E cons obs ρ (.call ⟨.builtin .copy, xs, ats⟩) K = some r) : ∃ av obs', K av obs' = some r ∧ EffSound P obs ρ (.call ⟨.builtin .copy, xs, ats⟩) av obs' := by
  simp only [effK] at h
  split at h
  · simp at *
  · rename_i id x t el eb t' el' eb' _ h1 h2
    obtain ⟨sx, xx, rfl, hs, hx⟩ := two_args h1
    obtain ⟨T, T', rfl, hT, hT'⟩ := two_args h2
    obtain ⟨hu, ⟨i, hi, hisz, _⟩, hok⟩ := (hty T _ hT).list rfl
    simp only at hu hi
    split at h
    · rename_i hc
      simp only [Bool.and_eq_true, decide_eq_true_eq] at hc
      obtain ⟨hsz, _⟩ := hc
      split at h
      · rename_i ob u m hob hm
        split at h
        · rename_i m' hm'
          split at h
          · rename_i hot
            have hobF : obF obs id = some ob := hob
            have hlt := obF_lt hobF
            refine ⟨_, _, h, by simp [length_setN], fun M0 b0 ν w a o ho hg hr next Q hK => ?_⟩
            have hs' := hr sx (by simp [Op.operands, Call.operands])
            have hx' := hr xx (by simp [Op.operands, Call.operands])
            rw [hs] at hs'
            obtain ⟨_, hsv⟩ := hs'
            have hmv : RepV (Msum M0 ν (obF obs)) w (.list ob.t) m' (a.eval xx) := by
              have := toDyn_rep (by rw [← hx] at hm; exact hm) hx'
              obtain ⟨e, he⟩ := castD_eq hm'
              have e' : u = ob.t := by simpa using e
              obtain ⟨oe, ot, ol⟩ := ob
              simp only at e' m' he
              subst e'
              simp only at he
              subst he
              exact this
            obtain ⟨_, hpos, ys, howo, hrow⟩ := hg.ob id ob hobF
            have hok' : ob.t.ok false = true := by rw [hot]; simpa [Ty.ok] using (hty _ _ hT).1
            have how := howo.row hok'
            have hsz' : ob.t.sz = 1 := by rw [hot]; exact hsz
            obtain ⟨_, cs, hmr, hmv'⟩ := hmv
            obtain ⟨A, c, ms, rfl, hrm, hcells⟩ := Rep.row hpos hmr
            have hmv2 : a.eval xx = .slice A m'.length c := by rw [hmv']; simp [ofCells, Ty.isSt]
            have hml : ms.length = m'.length := by rw [hrm.1, hsz', Nat.mul_one]
            have hyl : ys.length = ob.l.length := by rw [hrow.1, hsz', Nat.mul_one]
            have hone : ∀ v ∈ ms.take ob.l.length, v.oneCell' = true := by
              intro q hq
              have hq := List.mem_of_mem_take hq
              obtain ⟨j, hj, rfl⟩ := List.getElem_of_mem hq
              have h1 := hrm.2 j _ (List.getElem?_eq_getElem (by omega))
              rw [hsz', Nat.mul_one] at h1
              refine Rep.one _ _ _ h1 ms[j] (List.mem_of_getElem? (i := 0) ?_)
              rw [seg_getElem, if_pos (by omega)]
              exact List.getElem?_eq_getElem hj
            have hie : (P.info? el).map (·.size) = some 1 := by rw [hi]; simp [hisz, hsz]
            have hob' : obF (setN (some ⟨ob.e, ob.t, m'.take ob.l.length ++ ob.l.drop m'.length⟩) obs id ++ [none]) = upd (obF obs) id (some ⟨ob.e, ob.t, m'.take ob.l.length ++ ob.l.drop m'.length⟩) := by rw [obF_snoc_none, obF_set _ _ _ hlt]
            rw [hob'] at hK
            have hrow2 := RepRow.over hsz' hrow hrm
            have hmin : (ms.take ob.l.length).length = Nat.min m'.length ob.l.length := by simp only [List.length_take, hml]; exact Nat.min_comm _ _
            rcases how.1.2 with ⟨hn, hz⟩ | ⟨g, cap, cur, hν, hbg, hg2, hnc, hcm, hcs, htake⟩
            · -- nothing to write into
              have hl0 : ob.l = [] := List.eq_nil_of_length_eq_zero hz
              have hrun : (execOp a.eval o).run P w = .ok (.value (goInt 0)) w := by
                have := run_copy_none (P := P) w T T' o.type el none A 0 0 m'.length c hu hie (by simp)
                simp [execOp, ho, resolve, invoke, builtin, hsv, hn, hmv2, this]
              have hA := written_after hg hobF (m'.take ob.l.length ++ ob.l.drop m'.length) (take_drop_len _ _) (w' := w) (how.o hok') ⟨rfl, rfl, rfl, Nat.le_refl _, fun _ _ _ => rfl⟩ (by
                have hy0 : ys = [] := List.eq_nil_of_length_eq_zero (by omega)
                rw [hy0] at hrow2 ⊢
                simpa [splice, hz] using hrow2)
              have hv : ((min m'.length ob.l.length : Nat) : Int) = 0 := by rw [hz]; simp
              exact wp_value hrun (hK _ w ν hA (by rw [hv]; exact int_repV _ _ _ _))
            · by_cases h0 : Nat.min m'.length ob.l.length = 0
              · have hrun : (execOp a.eval o).run P w = .ok (.value (goInt 0)) w := by
                  have := run_copy_none (P := P) w T T' o.type el (some ⟨g, 0, none⟩) A ob.l.length cap m'.length c hu hie h0
                  simp [execOp, ho, resolve, invoke, builtin, hsv, hν, hmv2, this]
                have hA := written_after hg hobF (m'.take ob.l.length ++ ob.l.drop m'.length) (take_drop_len _ _) (w' := w) (how.o hok') ⟨rfl, rfl, rfl, Nat.le_refl _, fun _ _ _ => rfl⟩ (by
                  have ht0 : ms.take ob.l.length = [] := List.eq_nil_of_length_eq_zero (by rw [hmin, h0])
                  rw [ht0] at hrow2
                  simpa [splice] using hrow2)
                have hv : ((min m'.length ob.l.length : Nat) : Int) = 0 := by
                  have : min m'.length ob.l.length = 0 := h0
                  rw [this]; rfl
                exact wp_value hrun (hK _ w ν hA (by rw [hv]; exact int_repV _ _ _ _))
              · obtain ⟨ad, rfl⟩ : ∃ ad, A = some ad := by
                  have hp : 0 < ms.length := by rw [hml]; have := Nat.min_le_left m'.length ob.l.length; have h0' : Nat.min m'.length ob.l.length ≠ 0 := h0; have : (Nat.min m'.length ob.l.length) ≤ m'.length := this; omega
                  obtain ⟨ad, e, _⟩ := hcells 0 ms[0] (List.getElem?_eq_getElem hp)
                  exact ⟨ad, e⟩
                have hcurl : ob.l.length ≤ cur.size := by rw [hcs, hsz', Nat.mul_one]; exact hnc
                have htl : (ms.take ob.l.length).length ≤ ob.l.length := by simp; omega
                have hrunc := run_copy_row (P := P) w T T' o.type el g 0 ob.l.length cap ad m'.length c cur ob.e (ms.take ob.l.length) hu hie hg2 hmin (fun j q hj => by
                  rw [List.getElem?_take] at hj
                  split at hj
                  · obtain ⟨a', e, h⟩ := hcells j q hj
                    simp only [Option.some.injEq] at e
                    subst e
                    exact h
                  · cases hj) (by omega) hone
                obtain ⟨w', k1, k2, k3⟩ := own_splice (P := P) how (g := g) (by rw [hν]; rfl) (o := 0) (vs := ms.take ob.l.length) (by omega) hone
                have hst := run_storeCells_at P g 0 ob.e (ms.take ob.l.length) 0 cur w hg2 (by omega) hone
                simp only [Nat.add_zero, Nat.zero_add] at hst
                rw [k1] at hst
                simp only [Result.ok.injEq, true_and] at hst
                simp only [Nat.zero_add] at hrunc
                rw [← hst] at hrunc
                have hrun : (execOp a.eval o).run P w = .ok (.value (goInt (ms.take ob.l.length).length)) w' := by
                  simp only [execOp, ho, resolve, Sem.run_bind, Sem.run_pure, Result.andThen_ok, invoke, builtin, List.map_toArray, List.map_cons, List.map_nil, hsv, hν, hmv2, hrunc]
                have hA := written_after hg hobF (m'.take ob.l.length ++ ob.l.drop m'.length) (take_drop_len _ _) (k2.o hok') (by rw [hν]; exact k3) hrow2
                have hv : ((min m'.length ob.l.length : Nat) : Int) = ((ms.take ob.l.length).length : Int) := by rw [hmin]
                exact wp_value hrun (hK _ w' ν hA (by rw [hv]; exact int_repV _ _ _ _))
          · cases h
        · cases h
      · cases h
    · cases h
  · rename_i id lo n x t el eb t' el' eb' _ h1 h2
    obtain ⟨sx, xx, rfl, hs, hx⟩ := two_args h1
    obtain ⟨T, T', rfl, hT, hT'⟩ := two_args h2
    obtain ⟨hu, ⟨i, hi, hisz, _⟩, hok⟩ := (hty T _ hT).list rfl
    simp only at hu hi
    split at h
    · rename_i hc
      simp only [Bool.and_eq_true, decide_eq_true_eq] at hc
      obtain ⟨hsz, _⟩ := hc
      split at h
      · rename_i ob u m hob hm
        split at h
        · rename_i m' hm'
          split at h
          · rename_i hot
            have hobF : obF obs id = some ob := hob
            have hlt := obF_lt hobF
            refine ⟨_, _, h, by simp [length_setN], fun M0 b0 ν w a o ho hg hr next Q hK => ?_⟩
            have hs' := hr sx (by simp [Op.operands, Call.operands])
            have hx' := hr xx (by simp [Op.operands, Call.operands])
            rw [hs] at hs'
            obtain ⟨_, hsv⟩ := hs'
            obtain ⟨hn0, hlo, g0, nn, c0, wc, hν0, hsv, hnwc⟩ := hsv ob hobF
            have hmv : RepV (Msum M0 ν (obF obs)) w (.list ob.t) m' (a.eval xx) := by
              have := toDyn_rep (by rw [← hx] at hm; exact hm) hx'
              obtain ⟨e, he⟩ := castD_eq hm'
              have e' : u = ob.t := by simpa using e
              obtain ⟨oe, ot, ol⟩ := ob
              simp only at e' m' he
              subst e'
              simp only at he
              subst he
              exact this
            obtain ⟨_, hpos, ys, howo, hrow⟩ := hg.ob id ob hobF
            have hok' : ob.t.ok false = true := by rw [hot]; simpa [Ty.ok] using (hty _ _ hT).1
            have how := howo.row hok'
            have hsz' : ob.t.sz = 1 := by rw [hot]; exact hsz
            obtain ⟨_, cs, hmr, hmv'⟩ := hmv
            obtain ⟨A, c, ms, rfl, hrm, hcells⟩ := Rep.row hpos hmr
            have hmv2 : a.eval xx = .slice A m'.length c := by rw [hmv']; simp [ofCells, Ty.isSt]
            have hml : ms.length = m'.length := by rw [hrm.1, hsz', Nat.mul_one]
            have hyl : ys.length = ob.l.length := by rw [hrow.1, hsz', Nat.mul_one]
            have hone : ∀ v ∈ ms.take n, v.oneCell' = true := by
              intro q hq
              have hq := List.mem_of_mem_take hq
              obtain ⟨j, hj, rfl⟩ := List.getElem_of_mem hq
              have h1 := hrm.2 j _ (List.getElem?_eq_getElem (by omega))
              rw [hsz', Nat.mul_one] at h1
              refine Rep.one _ _ _ h1 ms[j] (List.mem_of_getElem? (i := 0) ?_)
              rw [seg_getElem, if_pos (by omega)]
              exact List.getElem?_eq_getElem hj
            have hie : (P.info? el).map (·.size) = some 1 := by rw [hi]; simp [hisz, hsz]
            have hnl := over_len (m := m') hlo
            have hob' : obF (setN (some ⟨ob.e, ob.t, ob.l.take lo ++ (m'.take n ++ ob.l.drop (lo + min m'.length n))⟩) obs id ++ [none]) = upd (obF obs) id (some ⟨ob.e, ob.t, ob.l.take lo ++ (m'.take n ++ ob.l.drop (lo + min m'.length n))⟩) := by rw [obF_snoc_none, obF_set _ _ _ hlt]
            rw [hob'] at hK
            have hrow2 := RepRow.overAt hsz' hrow hrm hlo
            have hmin : (ms.take n).length = Nat.min m'.length n := by simp only [List.length_take, hml]; exact Nat.min_comm _ _
            rw [hsz', Nat.mul_one] at hsv
            rcases how.1.2 with ⟨hn, hz⟩ | ⟨g, cap, cur, hν, hbg, hg2, hnc, hcm, hcs, htake⟩
            · omega
            · have hgg : g0 = g := by
                rw [hν] at hν0
                simp only [Value.slice.injEq, Option.some.injEq, Addr.mk.injEq] at hν0
                exact hν0.1.1.symm
              subst hgg
              by_cases h0 : Nat.min m'.length n = 0
              · have hrun : (execOp a.eval o).run P w = .ok (.value (goInt 0)) w := by
                  have := run_copy_none (P := P) w T T' o.type el (some ⟨g0, lo, none⟩) A n wc m'.length c hu hie h0
                  simp [execOp, ho, resolve, invoke, builtin, hsv, hmv2, this]
                have hA := written_after hg hobF (ob.l.take lo ++ (m'.take n ++ ob.l.drop (lo + min m'.length n))) hnl (w' := w) (how.o hok') ⟨rfl, rfl, rfl, Nat.le_refl _, fun _ _ _ => rfl⟩ (by
                  have ht0 : ms.take n = [] := List.eq_nil_of_length_eq_zero (by rw [hmin, h0])
                  rw [ht0] at hrow2
                  simpa [splice] using hrow2)
                have hv : ((min m'.length n : Nat) : Int) = 0 := by
                  have : min m'.length n = 0 := h0
                  rw [this]; rfl
                exact wp_value hrun (hK _ w ν hA (by rw [hv]; exact int_repV _ _ _ _))
              · obtain ⟨ad, rfl⟩ : ∃ ad, A = some ad := by
                  have hp : 0 < ms.length := by rw [hml]; have := Nat.min_le_left m'.length n; have h0' : Nat.min m'.length n ≠ 0 := h0; have : (Nat.min m'.length n) ≤ m'.length := this; omega
                  obtain ⟨ad, e, _⟩ := hcells 0 ms[0] (List.getElem?_eq_getElem hp)
                  exact ⟨ad, e⟩
                have hcurl : ob.l.length ≤ cur.size := by rw [hcs, hsz', Nat.mul_one]; exact hnc
                have htl : (ms.take n).length ≤ n := by simp; omega
                have hrunc := run_copy_row (P := P) w T T' o.type el g0 lo n wc ad m'.length c cur ob.e (ms.take n) hu hie hg2 hmin (fun j q hj => by
                  rw [List.getElem?_take] at hj
                  split at hj
                  · obtain ⟨a', e, h⟩ := hcells j q hj
                    simp only [Option.some.injEq] at e
                    subst e
                    exact h
                  · cases hj) (by omega) hone
                obtain ⟨w', k1, k2, k3⟩ := own_splice (P := P) how (g := g0) (by rw [hν]; rfl) (o := lo) (vs := ms.take n) (by omega) hone
                have hst := run_storeCells_at P g0 lo ob.e (ms.take n) 0 cur w hg2 (by omega) hone
                simp only [Nat.add_zero] at hst
                rw [k1] at hst
                simp only [Result.ok.injEq, true_and] at hst
                rw [← hst] at hrunc
                have hrun : (execOp a.eval o).run P w = .ok (.value (goInt (ms.take n).length)) w' := by
                  simp only [execOp, ho, resolve, Sem.run_bind, Sem.run_pure, Result.andThen_ok, invoke, builtin, List.map_toArray, List.map_cons, List.map_nil, hsv, hmv2, hrunc]
                have hA := written_after hg hobF (ob.l.take lo ++ (m'.take n ++ ob.l.drop (lo + min m'.length n))) hnl (k2.o hok') (by rw [hν]; exact k3) hrow2
                have hv : ((min m'.length n : Nat) : Int) = ((ms.take n).length : Int) := by rw [hmin]
                exact wp_value hrun (hK _ w' ν hA (by rw [hv]; exact int_repV _ _ _ _))
          · cases h
        · cases h
      · cases h
    · cases h
  · cases h
theorem inK_rep {M : Nat → Prop} {ν : Nat → Value} {dom : Nat → Prop} {w : World} {st : List (Option Ob)} (id : Nat) (hg : ∀ ob, nthD none st id = some ob → ObInO M w (ν id) ob) :
    ∀ (ps : List PK) (xs : List (AV × Value)) (ds : List Dyn) (ids : List Nat), inK st ps (xs.map (·.1)) = some (ds, ids) → (∀ j ∈ ids, j = id) → (∀ x ∈ xs, RepA M ν dom (obF st) w x.1 x.2) → RepIn M w (ν id) ps ds (xs.map (·.2))
  | [], [], ds, ids, h, _, _ => by simp [inK] at h; obtain ⟨rfl, rfl⟩ := h; trivial
  | p :: ps, x :: xs, ds, ids, h, hid, hr => by
    simp only [inK, List.map_cons] at h
    split at h
    · rename_i r q h1 h2
      simp only [Option.some.injEq, Prod.mk.injEq] at h
      obtain ⟨rfl, rfl⟩ := h
      have ih := inK_rep id hg ps xs q.1 q.2 h2 (fun j hj => hid j (by simp [hj])) fun y hy => hr y (by simp [hy])
      have hx := hr x (by simp)
      unfold argK at h1
      split at h1
      · split at h1
        · rename_i d hd
          simp only [Option.some.injEq] at h1
          subst h1
          exact ⟨toDyn_rep hd hx, ih⟩
        · cases h1
      · rename_i e t id' lo n hav
        split at h1
        · rename_i ob hob
          split at h1
          · rename_i hc
            simp only [Bool.and_eq_true, decide_eq_true_eq] at hc
            simp only [Option.some.injEq] at h1
            subst h1
            have := hid id' (by simp)
            subst this
            rw [hav] at hx
            obtain ⟨_, hx⟩ := hx
            obtain ⟨k0, k1, g, nn, c, cap, k2, k3, k4⟩ := hx ob hob
            have hO := hg ob hob
            obtain ⟨oe, ot, ol⟩ := ob
            obtain ⟨rfl, rfl⟩ := hc
            exact ⟨hO, k0, k1, ⟨g, nn, c, cap, k2, k3, k4⟩, ih⟩
          · cases h1
        · cases h1
      · rename_i e t id' hav
        split at h1
        · rename_i e' t' y hob
          split at h1
          · rename_i hc
            simp only [Bool.and_eq_true, decide_eq_true_eq] at hc
            simp only [Option.some.injEq] at h1
            subst h1
            have := hid id' (by simp)
            subst this
            rw [hav] at hx
            obtain ⟨_, hx⟩ := hx
            obtain ⟨k0, g, n, c, k2, k3⟩ := hx _ hob
            have hO := hg _ hob
            obtain ⟨rfl, rfl⟩ := hc
            exact ⟨hO, ⟨g, n, c, k2, by simpa [offP] using k3⟩, ih⟩
          · cases h1
        · cases h1
      · cases h1
    · cases h
  | [], _ :: _, _, _, h, _, _ => by simp [inK] at h
  | _ :: _, [], _, _, h, _, _ => by simp [inK] at h
theorem RepDs.mono {M M' : Nat → Prop} {w : World} (hM : ∀ b, M' b → M b) : ∀ {ds : List Dyn} {vs : List Value}, RepDs M w ds vs → RepDs M' w ds vs
  | [], [], _ => trivial
  | _ :: _, _ :: _, h => ⟨RepV.next (Agree.refl _ _) (fun b _ hb => hM b hb) h.1, RepDs.mono hM h.2⟩
theorem RepA.dom {M : Nat → Prop} {ν : Nat → Value} {dom dom' : Nat → Prop} {obs : Obs} {w : World} {av : AV} {v : Value} (hr : RepA M ν dom obs w av v) (h : ∀ id, dom id → dom' id) : RepA M ν dom' obs w av v := by
  cases av with
  | own id => exact ⟨h _ hr.1, hr.2⟩
  | ptr id ix path => exact ⟨h _ hr.1, hr.2⟩
  | win id lo n => exact ⟨h _ hr.1, hr.2⟩
  | clo f id => exact ⟨h _ hr.1, hr.2⟩
  | tupo id l => exact ⟨h _ hr.1, hr.2⟩
  | _ => exact hr
theorem cloK_rep {M : Nat → Prop} {ν : Nat → Value} {dom : Nat → Prop} {w : World} {obs : List (Option Ob)} {av : AV} {v : Value} {g : FuncId} {ex : List AV} (h : cloK obs av = some (g, ex)) (hr : RepA M ν dom (obF obs) w av v) :
    ∃ l : List (AV × Value), ex = l.map (·.1) ∧ v = .func (.func g) #[] (l.map (·.2)).toArray ∧ ∀ p ∈ l, RepA M ν dom (obF obs) w p.1 p.2 := by
  unfold cloK at h
  split at h
  · split at h
    · cases h
    · rename_i hne
      simp only [Option.some.injEq, Prod.mk.injEq] at h
      obtain ⟨rfl, rfl⟩ := h
      exact ⟨[], rfl, hr.trans (fV_fn (Nat.lt_of_not_le hne)), fun p hp => by cases hp⟩
  · rename_i f id
    split at h
    · rename_i ob hob
      simp only [Option.some.injEq, Prod.mk.injEq] at h
      obtain ⟨rfl, rfl⟩ := h
      obtain ⟨h1, h2⟩ := hr
      obtain ⟨h3, gg, n, c, h4, h5⟩ := h2 ob hob
      refine ⟨[(.ptr id 0 [], .pointer (some ⟨gg, 0, none⟩))], rfl, by rw [h5]; rfl, fun p hp => ?_⟩
      simp only [List.mem_singleton] at hp
      subst hp
      refine ⟨h1, fun ob' hob' => ?_⟩
      obtain ⟨k3, g', n', c', k4, k5⟩ := h2 ob' hob'
      rw [h4] at k4
      simp only [Value.slice.injEq, Option.some.injEq, Addr.mk.injEq, and_true] at k4
      obtain ⟨rfl, _, _⟩ := k4
      exact ⟨k3, gg, n, c, h4, by simp [offP]⟩
    · cases h
  · cases h
theorem callG_sound {E : Env X} (hfg : ∀ f fg, E.fg f = some fg → ContractG P f fg) {cons : Bool} {obs : List (Option Ob)} {f : Operand} {xs : Array Operand} {ats : Array TypeId} {K : AV → List (Option Ob) → Option R} {r : R}
    (h : effK E cons obs ρ (.call ⟨.value f, xs, ats⟩) K = some r) : ∃ av obs', K av obs' = some r ∧ EffSound P obs ρ (.call ⟨.value f, xs, ats⟩) av obs' := by
  simp only [effK] at h
  split at h
  · rename_i g ex hρf
    split at h
    · rename_i fg hfs
      split at h
      · rename_i ds id p hin hp
        split at h
        · rename_i x hx
          obtain ⟨res, hres, h⟩ := Option.bind_eq_some_iff.1 h
          split at h
          · rename_i o rds henc
            split at h
            · rename_i ob ob0 hob hob0
              split at h
              · rename_i hc
                simp only [Bool.and_eq_true, decide_eq_true_eq] at hc
                obtain ⟨oe, ot, ol⟩ := ob
                obtain ⟨rfl, rfl⟩ := hc
                have hobF : obF obs id = some ob0 := hob0
                have hlt := obF_lt hobF
                have core : ∀ (M0 : Nat → Prop) (b0 : Nat → Prop) (ν : Nat → Value) (w : World) (a : Act) (oo : Oper), oo.op = .call ⟨.value f, xs, ats⟩ → Good M0 b0 ν (obF obs) w →
                    (∀ y ∈ (Op.call ⟨.value f, xs, ats⟩).operands, RepA (Msum M0 ν (obF obs)) ν (· < obs.length) (obF obs) w (ρ y) (a.eval y)) →
                    ∀ (next : Act → World → Prop) (Q : Exit → Act → World → Prop), (∀ w' us N, (∀ b, N b → w.heap.size ≤ b) → ResG (fun b => Msum M0 ν (obF obs) b ∨ N b) N w' fg.nw rds us →
                      (∃ ys, ownsO b0 w' ob0.e ob0.t (ν id) ob0.l.length ys ∧ RepRow (fun b => Msum M0 ν (obF obs) b ∨ N b) w' ob0.t ol ys) → w.grownBy w' (ν id).ownBlock → ol.length = ob0.l.length → next (a.put oo.dst (tupleOf us)) w') → oo.wp P a w next Q := by
                  intro M0 b0 ν w a oo ho hg hr next Q hnext
                  have hf := hr f (by simp [Op.operands, Call.operands])
                  obtain ⟨el, hex, hf', hel⟩ := cloK_rep hρf hf
                  obtain ⟨q1, q2, xs0, q3, q4⟩ := hg.ob id ob0 hobF
                  have hl1 : (xs.toList.map (fun y => (ρ y, a.eval y)) ++ el).map (·.1) = xs.toList.map ρ ++ ex := by rw [List.map_append, List.map_map, hex]; rfl
                  have hl2 : (xs.toList.map (fun y => (ρ y, a.eval y)) ++ el).map (·.2) = xs.toList.map a.eval ++ el.map (·.2) := by rw [List.map_append, List.map_map]; rfl
                  have hargs := inK_rep (ν := ν) (dom := (· < obs.length)) (M := Msum M0 ν (obF obs)) (w := w) id (fun ob h => by
                    rw [hob0] at h
                    simp only [Option.some.injEq] at h
                    subst h
                    exact ⟨q1, q2, xs0, q3.1, q4⟩) fg.ps (xs.toList.map (fun y => (ρ y, a.eval y)) ++ el) ds [id] (by rw [hl1]; exact hin) (fun j hj => by simpa using hj) (fun y hy => by
                      rcases List.mem_append.1 hy with hy | hy
                      · obtain ⟨z, hz, rfl⟩ := List.mem_map.1 hy
                        exact hr z (by show z ∈ (#[f] ++ xs); exact Array.mem_append.2 (.inr (Array.mem_toList_iff.1 hz)))
                      · exact hel y hy)
                  rw [hl2] at hargs
                  have hdec := decT_enc _ ds x hx
                  rw [← hdec] at hargs
                  have hdo := hfg g fg hfs x res hres (Msum M0 ν (obF obs)) w _ (ν id) hg.mlt (fun b hb => .inr ⟨id, ob0, hobF, hb⟩) hg.glM hargs
                  have hrun : (execOp a.eval oo).run P w = (callFunc g (xs.map a.eval ++ (el.map (·.2)).toArray)).run P w := by
                    obtain ⟨dst, op, ty, pos, af, gd⟩ := oo
                    simp only at ho
                    subst ho
                    simp [execOp, resolve, hf', Deferred.ofValue, invoke]
                  have harr : (xs.toList.map a.eval ++ el.map (·.2)).toArray = xs.map a.eval ++ (el.map (·.2)).toArray := by
                    apply Array.toList_inj.1
                    simp
                  rw [harr] at hdo
                  have hgr : ∀ w', Beyond (fun b => w.heap.size ≤ b ∨ (ν id).ownBlock = some b) w w' → w.grownBy w' (ν id).ownBlock := fun w' hB => ⟨hB.os, hB.tape, hB.output, hB.size, fun k hk hne => hB.block k (by
                      rintro (h | h)
                      · omega
                      · exact hne h.symm)⟩
                  have hll : ∀ {w' : World} {ys : List Value}, ORow w' ob0.e ob0.t (ν id) ol.length ys → ol.length = ob0.l.length := fun k3 => by
                    obtain ⟨A1, c1, e1⟩ := q3.1.slice
                    obtain ⟨A2, c2, e2⟩ := k3.slice
                    rw [e1] at e2
                    simp only [Value.slice.injEq] at e2
                    exact e2.2.1.symm
                  have fin : ∀ w' us o' rds' N, encT (fg.ps.flatMap PK.outs ++ fg.rs) res = o' :: rds' → (∀ b, N b → w.heap.size ≤ b) → (∀ p ob, ioP fg.ps = some p → p.ob o' = some ob → ObInO (fun b => Msum M0 ν (obF obs) b ∨ N b) w' (ν id) ob) → ResG (fun b => Msum M0 ν (obF obs) b ∨ N b) N w' fg.nw rds' us →
                      Beyond (fun b => w.heap.size ≤ b ∨ (ν id).ownBlock = some b) w w' → next (a.put oo.dst (tupleOf us)) w' := by
                    intro w' us o' rds' N he hN hO hrd hB
                    rw [henc] at he
                    obtain ⟨rfl, rfl⟩ := List.cons.inj he
                    obtain ⟨k1, k2, ys, k3, k4⟩ := hO p _ hp hob
                    have hll := hll k3
                    refine hnext w' us N hN hrd ⟨ys, ⟨by rw [hll] at k3; exact k3, q3.2⟩, k4⟩ (hgr w' hB) hll
                  unfold Oper.wp
                  rw [hrun]
                  rcases hdo with ⟨h1, h2⟩ | ⟨v, w', h1, us, o', rds', N, hv, he, hN, hO, h2, h3⟩
                  · rw [h1]
                    refine h2.mono fun e w' he => ?_
                    obtain ⟨us, o', rds', N, rfl, he, hN, hO, h3, h4⟩ := he
                    exact fin w' us o' rds' N he hN hO h3 h4
                  · rw [h1]
                    simp only [Ending.returned.injEq] at hv
                    subst hv
                    exact fin w' us o' rds' N he hN hO h2 h3
                cases hnw : fg.nw with
                | none =>
                  rw [hnw] at h
                  refine ⟨_, _, h, by simp [length_setN], fun M0 b0 ν w a oo ho hg hr next Q hK => ?_⟩
                  refine core M0 b0 ν w a oo ho hg hr next Q fun w' us N hN hrd hO hgr hll => ?_
                  obtain ⟨ys, k3, k4⟩ := hO
                  rw [hnw] at hrd
                  have hA := changed_after hg hobF ol hll (w' := w') k3 hgr (k4.next (Agree.refl _ _) (fun b _ hb => .inl hb))
                  have hrd' : RepDs (Msum M0 ν (obF obs)) w' rds us := RepDs.mono (fun b hb => .inl hb) hrd
                  have hF : obF (setN (some ⟨ob0.e, ob0.t, ol⟩) obs id ++ [none]) = upd (obF obs) id (some ⟨ob0.e, ob0.t, ol⟩) := by rw [obF_snoc_none, obF_set _ _ _ hlt]
                  refine hK _ w' ν ?_ ?_
                  · rw [hF]
                    exact hA
                  · refine resAV_rep (hrd'.mono fun b hb => ?_)
                    rw [hF] at hb
                    rcases hb with hb | ⟨j, oj, hj, hb⟩
                    · exact .inl hb
                    · unfold upd at hj
                      split at hj
                      · rename_i e
                        subst e
                        exact .inr ⟨j, ob0, hobF, hb⟩
                      · exact .inr ⟨j, oj, hj, hb⟩
                | some e =>
                  rw [hnw] at h
                  match rds, h, core with
                  | ⟨.list u, (l : List u.D)⟩ :: d :: ds2, h, core =>
                    refine ⟨_, _, h, by simp [length_setN], fun M0 b0 ν w a oo ho hg hr next Q hK => ?_⟩
                    refine core M0 b0 ν w a oo ho hg hr next Q fun w' us N hN hrd hO hgr hll => ?_
                    obtain ⟨ys, k3, k4⟩ := hO
                    rw [hnw] at hrd
                    have hF : obF (setN (some ⟨ob0.e, ob0.t, ol⟩) obs id ++ [some ⟨e, u, l⟩]) = upd (upd (obF obs) id (some ⟨ob0.e, ob0.t, ol⟩)) obs.length (some ⟨e, u, l⟩) := by rw [obF_snoc, obF_set _ _ _ hlt, length_setN]
                    match us, hrd with
                    | v :: us2, hrd =>
                      obtain ⟨r1, ⟨r2, r3, zs, r4, r5⟩, r6⟩ := hrd
                      have hMv : ∀ b, (Msum M0 ν (obF obs) b ∨ v.ownBlock = some b) → Msum M0 ν (obF obs) b ∨ N b := fun b hb => hb.imp (fun h => h) (r1 b)
                      obtain ⟨hA, hMs⟩ := changed_new hg hobF ol hll (w' := w') ⟨e, u, l⟩ v (fun b hb => hN b (r1 b hb)) k3 hgr (k4.next (Agree.refl _ _) (fun b _ hb => hMv b hb)) ⟨okO_of r2, r3, zs, .of r2 r4, r5.next (Agree.refl _ _) (fun b _ hb => hMv b hb)⟩
                      rw [hF] at hK
                      refine hK _ w' _ hA ⟨Nat.lt_succ_self _, ?_⟩
                      have hds : RepDs (Msum M0 (fun id => if id = obs.length then v else ν id) (upd (upd (obF obs) id (some ⟨ob0.e, ob0.t, ol⟩)) obs.length (some ⟨e, u, l⟩))) w' (d :: ds2) us2 := RepDs.mono (fun b hb => hMv b (hMs b hb)) r6
                      have hlen : us2.length = (d :: ds2).length := hds.len.symm
                      refine ⟨(v :: us2).toArray, ?_, by simp [hlen], by simp, fun i dd hi => ?_⟩
                      · match us2, hlen with
                        | _ :: _, _ => rfl
                      · obtain ⟨q, g1, g2⟩ := hds.get i dd hi
                        exact ⟨q, by simpa using g1, g2⟩
                  | ⟨.list u, l⟩ :: [], h, _ => simp at h
                  | [], h, _ => simp at h
                  | ⟨.int _, _⟩ :: _, h, _ => simp at h
                  | ⟨.bool, _⟩ :: _, h, _ => simp at h
                  | ⟨.str, _⟩ :: _, h, _ => simp at h
                  | ⟨.flt, _⟩ :: _, h, _ => simp at h
                  | ⟨.fnc _, _⟩ :: _, h, _ => simp at h
                  | ⟨.nilI, _⟩ :: _, h, _ => simp at h
                  | ⟨.kids, _⟩ :: _, h, _ => simp at h
                  | ⟨.st _, _⟩ :: _, h, _ => simp at h
                  | ⟨.unit, _⟩ :: _, h, _ => simp at h
                  | ⟨.pair _ _, _⟩ :: _, h, _ => simp at h
              · cases h
            · cases h
          · cases h
        · cases h
      · cases h
    · cases h
  · cases h
theorem next_sound {E : Env X} {cons : Bool} {obs : List (Option Ob)} {x : Operand} {b : Bool} {K : AV → List (Option Ob) → Option R} {r : R}
    (h : effK E cons obs ρ (.next x b) K = some r) : ∃ av obs', K av obs' = some r ∧ EffSound P obs ρ (.next x b) av obs' := by
  cases b with
  | false => simp [effK] at h
  | true =>
    simp only [effK] at h
    split at h
    · rename_i id hρ
      split at h
      · rename_i e p hob
        obtain ⟨s, p⟩ := p
        have hobF : obF obs id = some ⟨e, itT, [(s, p)]⟩ := hob
        have hlt := obF_lt hobF
        have base : ∀ (M0 : Nat → Prop) (b0 : Nat → Prop) (ν : Nat → Value) (w : World) (a : Act), Good M0 b0 ν (obF obs) w → (∀ y ∈ (Op.next x true).operands, RepA (Msum M0 ν (obF obs)) ν (· < obs.length) (obF obs) w (ρ y) (a.eval y)) →
            ∃ k, ν id = .slice (some ⟨k, 0, none⟩) 1 1 ∧ a.eval x = .pointer (some ⟨k, 0, none⟩) ∧ w.heap[k]? = some (.stringIter s p) ∧ b0 k := by
          intro M0 b0 ν w a hg hr
          have hx := hr x (by simp [Op.operands])
          rw [hρ] at hx
          obtain ⟨_, g, n, c, hν, hav⟩ := hx.2 _ hobF
          obtain ⟨_, _, xs, how, hrow⟩ := hg.ob id _ hobF
          obtain ⟨k, s', p', h1, _, h3, h4⟩ := how.1.2 rfl
          have hp := hrow.2 0 (s, p) rfl
          obtain ⟨c1, c2, e1, e2, e3⟩ := hp
          simp only [Rep] at e2 e3
          subst e2 e3
          rw [h3] at e1
          simp only [seg, Ty.sz, Nat.zero_mul, List.drop_zero, List.cons_append, List.nil_append] at e1
          have e1 : s' = s ∧ p' = p := by simpa using e1
          obtain ⟨rfl, rfl⟩ := e1
          rw [h1] at hν
          simp only [Value.slice.injEq, Option.some.injEq, Addr.mk.injEq, and_true] at hν
          obtain ⟨hkg, _, _⟩ := hν
          subst hkg
          exact ⟨k, h1, by simpa [offP] using hav, h4, how.2 k (by rw [h1]; rfl)⟩
        unfold effK.nextK at h
        cases hb : Nat.blt p s.size <;> rw [hb] at h
        · simp only [cond_false] at h
          refine ⟨_, _, h, by simp, fun M0 b0 ν w a o ho hg hr next Q hK => ?_⟩
          obtain ⟨k, h1, h2, h3, h4⟩ := base M0 b0 ν w a hg hr
          have hnl : ¬ p < s.size := fun hl => by
            have : Nat.blt p s.size = true := by simpa [Nat.blt_eq] using hl
            rw [hb] at this; cases this
          have hrun : (execOp a.eval o).run P w = .ok (.value (.tuple #[.bool false])) w := by
            have := Lib.run_next_end_at (P := P) w k s p o.type h3 hnl
            simp [execOp, ho, h2, this]
          have hnone : obF obs obs.length = none := by
            cases hx : obF obs obs.length with
            | none => rfl
            | some ob => exact absurd (obF_lt hx) (Nat.lt_irrefl _)
          obtain ⟨hL, hG⟩ := hg.same hnone (Below.refl _ w)
          rw [obF_snoc_none] at hK
          have hu : upd (obF obs) obs.length none = obF obs := by rw [← obF_snoc, obF_snoc_none]
          refine wp_value hrun (hK _ w ν ⟨fun _ _ => rfl, Beyond.refl _ _, hg, fun av v hv => ?_⟩ ?_)
          · have := RepA.later (dom := (· < obs.length)) hL (Nat.lt_irrefl _) hv
            rw [hu] at this
            exact this.dom fun i hi => by
              have hi : i < obs.length ∨ i = obs.length := hi
              show i < obs.length + 1
              omega
          · refine ⟨#[.bool false], rfl, rfl, fun i d hi => ?_⟩
            cases i with
            | zero =>
              simp only [List.getElem?_cons_zero, Option.some.injEq] at hi
              subst hi
              exact ⟨_, rfl, bool_repV _ _ _⟩
            | succ i => simp at hi
        · simp only [cond_true] at h
          refine ⟨_, _, h, by simp [length_setN], fun M0 b0 ν w a o ho hg hr next Q hK => ?_⟩
          obtain ⟨k, h1, h2, h3, h4⟩ := base M0 b0 ν w a hg hr
          have hl : p < s.size := by simpa [Nat.blt_eq] using hb
          have hrun : (execOp a.eval o).run P w = .ok (.value (.tuple #[.bool true, .int .i64 p, .int .i32 (Utf8.decode s p).1])) (w.iterAt k s (p + (Utf8.decode s p).2)) := by
            have := Lib.run_next_any_at (P := P) w k s p o.type h3 hl
            simp [execOp, ho, h2, this]
          have hF : obF (setN (some ⟨e, itT, [(s, p + (Utf8.decode s p).2)]⟩) obs id ++ [none]) = upd (obF obs) id (some ⟨e, itT, [(s, p + (Utf8.decode s p).2)]⟩) := by rw [obF_snoc_none, obF_set _ _ _ hlt]
          have hgr : w.grownBy (w.iterAt k s (p + (Utf8.decode s p).2)) (ν id).ownBlock := ⟨rfl, rfl, rfl, by rw [Lib.iterAt_size]; exact Nat.le_refl _, fun j _ hne => Lib.iterAt_other w k j s _ (by
            intro e; subst e; exact hne (by rw [h1]; rfl))⟩
          have hA := changed_after hg hobF [(s, p + (Utf8.decode s p).2)] rfl (w' := w.iterAt k s (p + (Utf8.decode s p).2)) (ys := [.string s, .float .f64 (p + (Utf8.decode s p).2)])
            ⟨.of_it ⟨k, s, _, h1, rfl, rfl, Lib.iterAt_heap w k s p _ h3⟩, fun b hb => by rw [h1] at hb; simp only [Value.ownBlock, Option.some.injEq] at hb; subst hb; exact h4⟩ hgr
            (RepRow.one (t := itT) ⟨[.string s], [.float .f64 (p + (Utf8.decode s p).2)], rfl, rfl, rfl⟩)
          rw [hF] at hK
          refine wp_value hrun (hK _ _ ν hA ⟨#[.bool true, .int .i64 p, .int .i32 (Utf8.decode s p).1], rfl, rfl, fun i d hi => ?_⟩)
          match i, hi with
          | 0, hi =>
            simp only [List.getElem?_cons_zero, Option.some.injEq] at hi
            subst hi
            exact ⟨_, rfl, bool_repV _ _ _⟩
          | 1, hi =>
            simp only [List.getElem?_cons_succ, List.getElem?_cons_zero, Option.some.injEq] at hi
            subst hi
            exact ⟨_, rfl, int_repV _ _ _ _⟩
          | 2, hi =>
            simp only [List.getElem?_cons_succ, List.getElem?_cons_zero, Option.some.injEq] at hi
            subst hi
            exact ⟨_, rfl, int_repV _ _ _ _⟩
          | i + 3, hi => simp at hi
      · cases h
    · cases h
theorem eff_sound {E : Env X} (hty : ∀ T ti, E.ty T = some ti → TyOk P T ti) (hfg : ∀ f fg, E.fg f = some fg → ContractG P f fg) {cons : Bool} {obs : List (Option Ob)} {op : Op} {K : AV → List (Option Ob) → Option R} {r : R}
    (h : effK E cons obs ρ op K = some r) : ∃ av obs', K av obs' = some r ∧ EffSound P obs ρ op av obs' := by
  cases op with
  | store T ad x => exact store_sound hty h
  | next x b => exact next_sound h
  | call c =>
    obtain ⟨cal, xs, ats⟩ := c
    cases cal with
    | value f => exact callG_sound hfg h
    | invoke r m => simp [effK] at h
    | builtin b =>
      cases b with
      | append => exact append_sound hty h
      | copy => exact copy_sound hty h
      | _ => simp [effK] at h
  | _ => simp [effK] at h
end Go.FK


/- Statements: a state that a frame and a world match; objects that become data; a statement whose order is fixed. -/
namespace Go.FK
open Go.RowKit
structure NT where
  n : Nat
  ro : List Value
  df : List Deferred
variable {P : Program} {X R : Type} {nt : NT}
def FnsOk (P : Program) (E : Env X) : Prop := (∀ f m fs, E.fn f m = some fs → Contract P f fs) ∧ (∀ f fw, E.fw f = some fw → ContractW P f fw) ∧ (∀ f fg, E.fg f = some fg → ContractG P f fg) ∧ ArrsOk P
def Rows (ro : List Value) (ν : Nat → Value) (n : Nat) : Prop := ∀ j v, ro[j]? = some v → j < n ∧ ν j = v
theorem Rows.next {ro : List Value} {ν ν' : Nat → Value} {n n' : Nat} (h : Rows ro ν n) (hn : n ≤ n') (hν : ∀ j, j < n → ν' j = ν j) : Rows ro ν' n' := fun j v hj => by
  obtain ⟨h1, h2⟩ := h j v hj
  exact ⟨by omega, by rw [hν j h1]; exact h2⟩
def Matches (M0 : Nat → Prop) (b0 : Nat → Prop) (w0 : World) (nt : NT) (s : St) (a : Act) (w : World) : Prop :=
  a.defers = nt.df ∧ Beyond b0 w0 w ∧ a.tmps.size = s.fr.length ∧ a.tmps.size = nt.n ∧ ∃ ν, Rows nt.ro ν s.obs.length ∧ Good M0 b0 ν (obF s.obs) w ∧ ∀ t, RepA (Msum M0 ν (obF s.obs)) ν (· < s.obs.length) (obF s.obs) w (nthD .bad s.fr t) (a.tmps.getD t undef)
theorem RepA.mono {M M' : Nat → Prop} {ν : Nat → Value} {dom : Nat → Prop} {obs obs' : Obs} {w : World} (hM : ∀ b, M' b → M b) (ho : ∀ id ob, obs' id = some ob → obs id = some ob) {av : AV} {v : Value} (h : RepA M ν dom obs w av v) : RepA M' ν dom obs' w av v := by
  cases av with
  | bad => trivial
  | und => exact h
  | nil => exact h
  | val t x => exact RepV.next (Agree.refl _ _) (fun b _ hb => hM b hb) h
  | tup l =>
    obtain ⟨vs, e, h1, h2⟩ := h
    exact ⟨vs, e, h1, fun i d hi => by
      obtain ⟨u, hu, hr⟩ := h2 i d hi
      exact ⟨u, hu, RepV.next (Agree.refl _ _) (fun b _ hb => hM b hb) hr⟩⟩
  | tupo id l =>
    obtain ⟨h0, vs, e, h1, h3, h2⟩ := h
    exact ⟨h0, vs, e, h1, h3, fun i d hi => by
      obtain ⟨u, hu, hr⟩ := h2 i d hi
      exact ⟨u, hu, RepV.next (Agree.refl _ _) (fun b _ hb => hM b hb) hr⟩⟩
  | own id => exact h
  | ptr id ix p => exact ⟨h.1, fun ob hob => h.2 ob (ho id ob hob)⟩
  | win id lo n => exact ⟨h.1, fun ob hob => h.2 ob (ho id ob hob)⟩
  | mem t x =>
    obtain ⟨h0, a, cs, e, h1, h2, h3, h4⟩ := h
    exact ⟨h0, a, cs, e, h1, fun hm => h2 (hM _ hm), Rep.next (Agree.refl _ _) (fun b _ hb => hM b hb) t x cs h3, h4⟩
  | fn f => exact h
  | tab k l =>
    obtain ⟨a, e, h1, h2, h3⟩ := h
    exact ⟨a, e, h1, fun hm => h2 (hM _ hm), h3⟩
  | clo f id => exact ⟨h.1, fun ob hob => h.2 ob (ho id ob hob)⟩
theorem nthD_map (f : AV → AV) (hf : f .bad = .bad) : ∀ (l : List AV) (n : Nat), nthD .bad (l.map f) n = f (nthD .bad l n)
  | [], _ => by simp [nthD, hf]
  | _ :: _, 0 => rfl
  | _ :: xs, n + 1 => nthD_map f hf xs n
theorem freeze_one {M0 : Nat → Prop} {b0 : Nat → Prop} {w0 : World} {s : St} {a : Act} {w : World} (h : Matches M0 b0 w0 nt s a w) {id : Nat} {ob : Ob} (ho : nthD none s.obs id = some ob) (hok : ob.t.ok false = true) :
    Matches M0 b0 w0 nt ⟨s.fr.map (frzA id ob), setN none s.obs id⟩ a w := by
  obtain ⟨h1, h2, h3, hn3, ν, hw, hg, hr⟩ := h
  have hobF : obF s.obs id = some ob := ho
  have hlt := obF_lt hobF
  have hF : obF (setN none s.obs id) = upd (obF s.obs) id none := obF_set _ _ _ hlt
  have hsub : ∀ j oj, upd (obF s.obs) id none j = some oj → obF s.obs j = some oj := by
    intro j oj hj
    unfold upd at hj
    split at hj
    · cases hj
    · exact hj
  have hM : ∀ b, Msum M0 ν (upd (obF s.obs) id none) b → Msum M0 ν (obF s.obs) b := by
    rintro b (hm | ⟨j, oj, hj, hb⟩)
    · exact .inl hm
    · exact .inr ⟨j, oj, hsub j oj hj, hb⟩
  refine ⟨h1, h2, by simpa using h3, hn3, ν, hw.next (by simp [length_setN]) (fun _ _ => rfl), ?_, fun t => ?_⟩
  · show Good M0 b0 ν (obF (setN none s.obs id)) w
    rw [hF]
    refine ⟨hg.m0, hg.gl, hg.hb, fun j oj hj => ?_, fun i j oi oj hi hj hij => hg.ne i j oi oj (hsub i oi hi) (hsub j oj hj) hij⟩
    obtain ⟨q1, q2, xs, q3, q4⟩ := hg.ob j oj (hsub j oj hj)
    exact ⟨q1, q2, xs, q3, q4.next (Agree.refl _ _) (fun b _ hb => hM b hb)⟩
  · show RepA (Msum M0 ν (obF (setN none s.obs id))) ν (· < (setN none s.obs id).length) (obF (setN none s.obs id)) w (nthD .bad (s.fr.map (frzA id ob)) t) _
    rw [hF, length_setN, nthD_map _ rfl]
    have := (hr t).mono hM hsub
    generalize nthD .bad s.fr t = av at this ⊢
    cases av with
    | own i =>
      simp only [frzA]
      split
      · rename_i e
        subst e
        obtain ⟨_, hv⟩ := this
        rw [hv]
        obtain ⟨_, q2, xs, q3, q4⟩ := hg.ob i ob hobF
        have q3 := q3.row hok
        refine ⟨by simpa [Ty.ok] using hok, [ν i], RepRow.list q3.1 (q4.next (Agree.refl _ _) (fun b _ hb => hM b hb)) (fun b hb hm => ?_), by simp [ofCells, Ty.isSt]⟩
        rcases hm with hm | ⟨j, oj, hj, hbj⟩
        · exact hg.m0 b hm (q3.2 b hb)
        · have hne : j ≠ i := by intro e; subst e; simp [upd] at hj
          exact hg.ne i j ob oj hobF (hsub j oj hj) (fun e => hne e.symm) b hb hbj
      · exact this
    | _ => exact this
theorem freeze_sound {M0 : Nat → Prop} {b0 : Nat → Prop} {w0 : World} {a : Act} {w : World} : ∀ (ts : List Tmp) (s : St), Matches M0 b0 w0 nt s a w → Matches M0 b0 w0 nt (freeze s ts) a w
  | [], _, h => h
  | t :: ts, s, h => by
    unfold freeze
    split
    · split
      · rename_i ob ho
        cases hok : ob.t.ok false
        · exact freeze_sound ts s h
        · exact freeze_sound ts _ (freeze_one h ho hok)
      · exact freeze_sound ts s h
    · exact freeze_sound ts s h
theorem put_matches {M0 : Nat → Prop} {b0 : Nat → Prop} {w0 w : World} {a : Act} {fr : List AV} {obs : List (Option Ob)} {ν : Nat → Value} (h1 : a.defers = nt.df) (h2 : Beyond b0 w0 w) (h3 : a.tmps.size = fr.length) (hn3 : a.tmps.size = nt.n) (hw : Rows nt.ro ν obs.length) (hg : Good M0 b0 ν (obF obs) w)
    (hr : ∀ t, RepA (Msum M0 ν (obF obs)) ν (· < obs.length) (obF obs) w (nthD .bad fr t) (a.tmps.getD t undef)) (dst : Option Tmp) {av : AV} {v : Value} (hv : RepA (Msum M0 ν (obF obs)) ν (· < obs.length) (obF obs) w av v) :
    Matches M0 b0 w0 nt ⟨put fr dst av, obs⟩ (a.put dst v) w := by
  cases dst with
  | none => exact ⟨h1, h2, h3, hn3, ν, hw, hg, hr⟩
  | some d =>
    refine ⟨h1, h2, by simp [put, Act.put, length_setN, h3], by simp [Act.put, hn3], ν, hw, hg, fun t => ?_⟩
    show RepA _ _ _ _ _ (nthD .bad (setN av fr d) t) ((a.tmps.setIfInBounds d v).getD t undef)
    rw [nthD_setN]
    by_cases e : d = t
    · subst e
      by_cases hlt : d < fr.length
      · rw [if_pos ⟨rfl, hlt⟩]
        have : (a.tmps.setIfInBounds d v).getD d undef = v := by simp [Array.getD_eq_getD_getElem?, h3, hlt]
        rw [this]
        exact hv
      · rw [if_neg (fun h => hlt h.2)]
        have : nthD AV.bad fr d = .bad := by rw [nthD_eq, List.getD_eq_getElem?_getD, List.getElem?_eq_none (Nat.le_of_not_lt hlt)]; rfl
        rw [this]
        trivial
    · rw [if_neg (fun h => e h.1)]
      have : (a.tmps.setIfInBounds d v).getD t undef = a.tmps.getD t undef := by simp [Array.getD_eq_getD_getElem?, Array.getElem?_setIfInBounds_ne e]
      rw [this]
      exact hr t
theorem glob_rep {M : Nat → Prop} {ν : Nat → Value} {dom : Nat → Prop} {obs : Obs} {w : World} (hgl : Gl M w) (fr : List AV) (a : Act) (g : Nat) : RepA M ν dom obs w (evA fr (.global g)) (a.eval (.global g)) := by
  have hv : a.eval (.global g) = .pointer (some ⟨g, 0, none⟩) := rfl
  show RepA M ν dom obs w (match glob g with | some (k, l) => .tab k l | none => .bad) _
  split
  · rename_i k l hk
    obtain ⟨h1, h2, h3, _⟩ := hgl.tab g k l hk
    exact ⟨_, hv, h1, h2, h3⟩
  · trivial
theorem evA_rep {M : Nat → Prop} {ν : Nat → Value} {dom : Nat → Prop} {obs : Obs} {w : World} {a : Act} {fr : List AV} (hgl : Gl M w) (hr : ∀ t, RepA M ν dom obs w (nthD .bad fr t) (a.tmps.getD t undef)) (x : Operand) : RepA M ν dom obs w (evA fr x) (a.eval x) := by
  cases x with
  | tmp t => exact hr t
  | const v => exact cv_rep _ _ _ _ _ _
  | global g => exact glob_rep hgl _ _ _
  | func f =>
    simp only [evA]
    split
    · rename_i h; exact (fV_fn h).symm
    · trivial
theorem free_step {E : Env X} (hty : ∀ T ti, E.ty T = some ti → TyOk P T ti) (hfn : FnsOk P E) {cons : Bool} {s : St} {o : Oper} {K : AV → Option Ob → Option R} {r : R}
    {obsm : Obs} (hmask : ∀ id ob, obsm id = some ob → obF s.obs id = some ob) (h : freeK E s.obs.length cons obsm (evA s.fr) o.op K = some r) {M0 : Nat → Prop} {b0 : Nat → Prop} {w0 w : World} {a : Act} (hm : Matches M0 b0 w0 nt s a w) {next : Act → World → Prop} {Q : Exit → Act → World → Prop}
    (hn : ∀ av nob a' w', K av nob = some r → Matches M0 b0 w0 nt ⟨put s.fr o.dst av, s.obs ++ [nob]⟩ a' w' → next a' w') : o.wp P a w next Q := by
  obtain ⟨h1, h2, h3, hn3, ν, hw, hg, hr⟩ := hm
  obtain ⟨av, nob, hK, hS⟩ := free_sound hty hfn.2.2.2 hfn.1 hfn.2.1 h
  have hnone : obF s.obs s.obs.length = none := by
    cases hx : obF s.obs s.obs.length with
    | none => rfl
    | some ob => exact absurd (obF_lt hx) (Nat.lt_irrefl _)
  refine hS M0 b0 ν (obF s.obs) (· < s.obs.length) w a o rfl hg (fun id ob ho => obF_lt ho) hmask (fun x _ => evA_rep hg.glM hr x) hnone (Nat.lt_irrefl _) next Q fun v w' ν' hL hG hrep => ?_
  refine hn av nob _ w' hK ?_
  have hdom : (fun id => id < s.obs.length ∨ id = s.obs.length) = (· < (s.obs ++ [nob]).length) := by
    funext id
    apply propext
    simp
    omega
  have hb : Beyond b0 w0 w' := h2.trans (Beyond.of_below hL.below hg.hb)
  have hF := obF_snoc s.obs nob
  have hkeep : ∀ t, RepA (Msum M0 ν' (obF (s.obs ++ [nob]))) ν' (· < (s.obs ++ [nob]).length) (obF (s.obs ++ [nob])) w' (nthD .bad s.fr t) (a.tmps.getD t undef) := by
    intro t
    have := RepA.later (dom := (· < s.obs.length)) hL (Nat.lt_irrefl _) (hr t)
    rw [hF, ← hdom]
    exact this
  exact put_matches h1 hb h3 hn3 (hw.next (by simp) (fun j hj => hL.nu j (Nat.ne_of_lt hj))) (by rw [hF]; exact hG) hkeep o.dst (by rw [hF, ← hdom]; exact hrep)
theorem eff_step {E : Env X} (hty : ∀ T ti, E.ty T = some ti → TyOk P T ti) (hfn : FnsOk P E) {cons : Bool} {s : St} {o : Oper} {K : AV → List (Option Ob) → Option R} {r : R}
    (h : effK E cons s.obs (evA s.fr) o.op K = some r) {M0 : Nat → Prop} {b0 : Nat → Prop} {w0 w : World} {a : Act} (hm : Matches M0 b0 w0 nt s a w) {next : Act → World → Prop} {Q : Exit → Act → World → Prop}
    (hn : ∀ av obs' a' w', K av obs' = some r → Matches M0 b0 w0 nt ⟨put s.fr o.dst av, obs'⟩ a' w' → next a' w') : o.wp P a w next Q := by
  obtain ⟨h1, h2, h3, hn3, ν, hw, hg, hr⟩ := hm
  obtain ⟨av, obs', hK, hlen, hS⟩ := eff_sound hty hfn.2.2.1 h
  refine hS M0 b0 ν w a o rfl hg (fun x _ => evA_rep hg.glM hr x) next Q fun v w' ν' hA hrep => ?_
  refine hn av obs' _ w' hK ?_
  have hdom : (fun id => id < s.obs.length + 1) = (· < obs'.length) := by rw [hlen]
  exact put_matches h1 (h2.trans hA.below) h3 hn3 (hw.next (by rw [hlen]; omega) hA.nu) hA.good (fun t => by rw [← hdom]; exact hA.keep _ _ (hr t)) o.dst (by rw [← hdom]; exact hrep)
theorem yielded_some {ops : Array Oper} {tmps : Array Value} {j : Nat} {p : Oper} {d : Tmp} {v : Value} (hp : ops[j]? = some p) (hd : p.dst = some d) (hv : tmps[d]? = some v) : yielded ops tmps j = (match v with | .bool b => some b | _ => none) := by
  unfold yielded
  rw [hp]
  simp only [Option.bind_some, hd, hv]
  cases v <;> rfl
end Go.FK


/- A region, in the text's order: what the interpreter finds holds of the machine. -/
namespace Go.FK
open Go.RowKit
variable {P : Program} {X R : Type} {nt : NT}
theorem setN_self {z v : AV} : ∀ {l : List AV} {n : Nat}, nthD z l n = v → setN v l n = l
  | [], _, _ => rfl
  | x :: xs, 0, h => by simp only [nthD] at h; simp [setN, h]
  | x :: xs, n + 1, h => by simp only [nthD] at h; simp [setN, setN_self h]
theorem nthD_lt {l : List AV} {n : Nat} {v : AV} (h : nthD .bad l n = v) (hv : v ≠ .bad) : n < l.length := by
  rcases Nat.lt_or_ge n l.length with h' | h'
  · exact h'
  · rw [nthD_eq, List.getD_eq_getElem?_getD, List.getElem?_eq_none h'] at h
    exact absurd h.symm hv
theorem Matches.tmp {M0 : Nat → Prop} {b0 : Nat → Prop} {w0 : World} {s : St} {a : Act} {w : World} (h : Matches M0 b0 w0 nt s a w) {d : Tmp} (hd : nthD .bad s.fr d ≠ .bad) : ∃ v, a.tmps[d]? = some v ∧
    ∃ ν, RepA (Msum M0 ν (obF s.obs)) ν (· < s.obs.length) (obF s.obs) w (nthD .bad s.fr d) v := by
  obtain ⟨_, _, h3, _, ν, _, _, hr⟩ := h
  have hlt : d < a.tmps.size := by rw [h3]; exact nthD_lt rfl hd
  refine ⟨a.tmps[d], by simp [hlt], ν, ?_⟩
  have := hr d
  simpa [Array.getD_eq_getD_getElem?, hlt] using this
def stepK (E : Env X) (all : List Oper) (n0 : Nat) (rest : List Oper) (bs : List (Option Nat)) (o : Oper) (s : St) (K : St → Option R) : Option R :=
  bif effD E (evA s.fr) o.op then effK E (match o.dst with | some d => hasT d (consOps E rest) | none => false) s.obs (evA s.fr) o.op fun v obs =>
    runOps E all n0 rest (bs.drop 1) ⟨put s.fr o.dst v, obs⟩ K
  else freeK E s.obs.length (match o.dst with | some d => hasT d (consOps E rest) | none => false)
    (match bs with
      | some b :: _ => fun id => bif decide (id < n0) || b.testBit (id - n0) then s.ob id else none
      | _ => s.ob) (evA s.fr) o.op fun v ob =>
    runOps E all n0 rest (bs.drop 1) ⟨put s.fr o.dst v, s.obs ++ [ob]⟩ K
def skipK (E : Env X) (all : List Oper) (n0 : Nat) (rest : List Oper) (bs : List (Option Nat)) (o : Oper) (s : St) (K : St → Option R) : Option R :=
  runOps E all n0 rest (bs.drop 1) ⟨put s.fr o.dst .und, s.obs ++ [none]⟩ K
inductive Way (all : List Oper) (s : St) (o : Oper) : Bool → Prop
  | free (h : o.guard = none) : Way all s o true
  | met (j : Nat) (want : Bool) (p : Oper) (d : Tmp) (b : Bool) (h : o.guard = some (j, want)) (hp : all[j]? = some p) (hd : p.dst = some d) (hv : nthD .bad s.fr d = .val .bool b) : Way all s o (b == want)
  | und (j : Nat) (want : Bool) (p : Oper) (d : Tmp) (h : o.guard = some (j, want)) (hp : all[j]? = some p) (hd : p.dst = some d) (hv : nthD .bad s.fr d = .und) : Way all s o false
theorem runOps_cons {E : Env X} {all : List Oper} {n0 : Nat} {o : Oper} {rest : List Oper} {bs : List (Option Nat)} {s : St} {K : St → Option R} {r : R} (h : runOps E all n0 (o :: rest) bs s K = some r) :
    ∃ y, Way all s o y ∧ (bif y then stepK E all n0 rest bs o s K else skipK E all n0 rest bs o s K) = some r := by
  unfold runOps at h
  simp only [force_eq] at h
  split at h
  · rename_i hg
    exact ⟨true, .free hg, h⟩
  · rename_i j want hg
    split at h
    · cases h
    · rename_i p hp
      split at h
      · cases h
      · rename_i d hd
        split at h
        · rename_i b hv
          refine ⟨_, .met j want p d b hg hp hd hv, ?_⟩
          cases b <;> cases want <;> simp only [cond_true, cond_false, setN_self hv] at h <;> exact h
        · rename_i hv
          exact ⟨false, .und j want p d hg hp hd hv, h⟩
        · cases h
theorem Way.wanted' {all : List Oper} {s : St} {o : Oper} {y : Bool} (h : Way all s o y) {a : Act}
    (hm : ∀ g want p d, o.guard = some (g, want) → all[g]? = some p → p.dst = some d → nthD .bad s.fr d ≠ .bad → ∃ v, a.tmps[d]? = some v ∧ ∃ M ν dom obs w, RepA M ν dom obs w (nthD .bad s.fr d) v) :
    Region.wanted o (yielded all.toArray a.tmps) = y := by
  unfold Region.wanted
  cases h with
  | free h => rw [h]
  | met j want p d b h hp hd hv =>
    rw [h]
    obtain ⟨v, hv1, _, ν, _, _, _, hv2⟩ := hm j want p d h hp hd (by rw [hv]; simp)
    rw [hv] at hv2
    have e := repV_bool hv2
    subst e
    simp only
    rw [yielded_some (p := p) (by simpa using hp) hd hv1]
    cases b <;> cases want <;> rfl
  | und j want p d h hp hd hv =>
    rw [h]
    obtain ⟨v, hv1, _, ν, _, _, _, hv2⟩ := hm j want p d h hp hd (by rw [hv]; simp)
    rw [hv] at hv2
    have e : v = undef := hv2
    subst e
    simp only
    rw [yielded_some (p := p) (by simpa using hp) hd hv1]
    cases want <;> rfl
theorem Way.wanted {all : List Oper} {s : St} {o : Oper} {y : Bool} (h : Way all s o y) {M0 : Nat → Prop} {b0 : Nat → Prop} {w0 : World} {a : Act} {w : World} (hm : Matches M0 b0 w0 nt s a w) :
    Region.wanted o (yielded all.toArray a.tmps) = y :=
  h.wanted' fun _ _ _ d _ _ _ hb => by
    obtain ⟨v, h1, ν, h2⟩ := hm.tmp (d := d) hb
    exact ⟨v, h1, _, ν, _, _, _, h2⟩
theorem skip_matches {M0 : Nat → Prop} {b0 : Nat → Prop} {w0 : World} {s : St} {a : Act} {w : World} (h : Matches M0 b0 w0 nt s a w) (dst : Option Tmp) : Matches M0 b0 w0 nt ⟨put s.fr dst .und, s.obs ++ [none]⟩ (a.put dst undef) w := by
  obtain ⟨h1, h2, h3, hn3, ν, hw, hg, hr⟩ := h
  have hF : obF (s.obs ++ [none]) = obF s.obs := obF_snoc_none s.obs
  refine put_matches h1 h2 h3 hn3 (ν := ν) (hw.next (by simp) (fun _ _ => rfl)) (by rw [hF]; exact hg) (fun t => ?_) dst rfl
  rw [hF]
  have := hr t
  generalize nthD .bad s.fr t = av at this ⊢
  cases av with
  | own id => exact ⟨by simp only [List.length_append, List.length_singleton]; exact Nat.lt_succ_of_lt this.1, this.2⟩
  | win id lo n => exact ⟨by simp only [List.length_append, List.length_singleton]; exact Nat.lt_succ_of_lt this.1, this.2⟩
  | ptr id ix p => exact ⟨by simp only [List.length_append, List.length_singleton]; exact Nat.lt_succ_of_lt this.1, this.2⟩
  | clo f id => exact ⟨by simp only [List.length_append, List.length_singleton]; exact Nat.lt_succ_of_lt this.1, this.2⟩
  | tupo id l => exact ⟨by simp only [List.length_append, List.length_singleton]; exact Nat.lt_succ_of_lt this.1, this.2⟩
  | _ => exact this
theorem nthD_put {l : List AV} {d : Option Tmp} {v : AV} {t : Tmp} (h : d ≠ some t) : nthD .bad (put l d v) t = nthD .bad l t := by
  cases d with
  | none => rfl
  | some u =>
    simp only [put]
    rw [nthD_setN, if_neg]
    rintro ⟨e, _⟩
    exact h (by rw [e])
theorem step_strict {E : Env X} (hty : ∀ T ti, E.ty T = some ti → TyOk P T ti) (hfn : FnsOk P E) {all : List Oper} {n0 : Nat} {o : Oper} {rest : List Oper} {bs : List (Option Nat)} {s : St} {K : St → Option R} {r : R}
    (h : runOps E all n0 (o :: rest) bs s K = some r) {M0 : Nat → Prop} {b0 : Nat → Prop} {w0 w : World} {a : Act} (hm : Matches M0 b0 w0 nt s a w) {next : Act → World → Prop} {Q : Exit → Act → World → Prop}
    (hn : ∀ s' a' w', (∀ t, o.dst ≠ some t → nthD .bad s'.fr t = nthD .bad s.fr t) → runOps E all n0 rest (bs.drop 1) s' K = some r → Matches M0 b0 w0 nt s' a' w' → next a' w') :
    if Region.wanted o (yielded all.toArray a.tmps) then o.wp P a w next Q else next (a.put o.dst undef) w := by
  obtain ⟨y, hy, hk⟩ := runOps_cons h
  rw [hy.wanted hm]
  cases y
  · simp only [cond_false, skipK] at hk
    simp only [Bool.false_eq_true, if_false]
    exact hn _ _ _ (fun _ ht => nthD_put ht) hk (skip_matches hm o.dst)
  · simp only [cond_true, stepK] at hk
    simp only [if_true]
    cases hE : effD E (evA s.fr) o.op <;> simp only [hE, cond_true, cond_false] at hk
    · refine free_step hty hfn ?_ hk hm fun av nob a' w' hK hM => hn _ _ _ (fun _ ht => nthD_put ht) hK hM
      intro id ob hob
      split at hob
      · cases hb : decide (id < n0) || Nat.testBit _ (id - n0)
        · rw [hb] at hob; cases hob
        · rw [hb] at hob; exact hob
      · exact hob
    · exact eff_step hty hfn hk hm fun av obs' a' w' hK hM => hn _ _ _ (fun _ ht => nthD_put ht) hK hM
theorem step_sound {E : Env X} (hty : ∀ T ti, E.ty T = some ti → TyOk P T ti) (hfn : FnsOk P E) {all : List Oper} {n0 : Nat} {o : Oper} {rest : List Oper} {bs : List (Option Nat)} {s : St} {K : St → Option R} {r : R}
    (h : runOps E all n0 (o :: rest) bs s K = some r) {M0 : Nat → Prop} {b0 : Nat → Prop} {w0 w : World} {a : Act} (hm : Matches M0 b0 w0 nt s a w) {next : Act → World → Prop} {Q : Exit → Act → World → Prop}
    (hn : ∀ s' a' w', (∀ t, o.dst ≠ some t → nthD .bad s'.fr t = nthD .bad s.fr t) → runOps E all n0 rest (bs.drop 1) s' K = some r → Matches M0 b0 w0 nt s' a' w' → next a' w') :
    if Region.wanted o (yielded all.toArray a.tmps) then o.wp P a w next Q ∨ (o.asks P a w ∧ LetsOut Q) else next (a.put o.dst undef) w := by
  have := step_strict hty hfn (Q := Q) h hm hn
  split
  · rename_i hw
    rw [if_pos hw] at this
    exact .inl this
  · rename_i hw
    rw [if_neg hw] at this
    exact this
theorem list_sound {E : Env X} (hty : ∀ T ti, E.ty T = some ti → TyOk P T ti) (hfn : FnsOk P E) {all : List Oper} {n0 : Nat} {K : St → Option R} {r : R} {M0 : Nat → Prop} {b0 : Nat → Prop} {w0 : World} {Q : Exit → Act → World → Prop}
    (hQ : ∀ s' a' w', K s' = some r → Matches M0 b0 w0 nt s' a' w' → Q .normal a' w') : ∀ (l : List Oper) (bs : List (Option Nat)) (s : St) (a : Act) (w : World), runOps E all n0 l bs s K = some r → Matches M0 b0 w0 nt s a w → wpList P all.toArray Q l a w
  | [], _, _, _, _, h, hm => hQ _ _ _ (by simpa [runOps] using h) hm
  | _ :: rest, bs, _, _, _, h, hm => by
    have := step_sound hty hfn (Q := Q) h hm (next := wpList P all.toArray Q rest) fun s' a' w' _ h' hm' => list_sound hty hfn hQ rest (bs.drop 1) s' a' w' h' hm'
    exact this
theorem region_seq {E : Env X} (hty : ∀ T ti, E.ty T = some ti → TyOk P T ti) (hfn : FnsOk P E) {id : Nat} {ops : Array Oper} {s : St} {K : St → Option R} {r : R} (h : regionK E ops.toList false s K = some r)
    {M0 : Nat → Prop} {b0 : Nat → Prop} {w0 : World} {a : Act} {w : World} (hm : Matches M0 b0 w0 nt s a w) {Q : Exit → Act → World → Prop} (hQ : ∀ s' a' w', K s' = some r → Matches M0 b0 w0 nt s' a' w' → Q .normal a' w') : (Code.region id ops false).wp P Q a w := by
  unfold regionK at h
  simp only [force_eq, cond_false] at h
  refine wp_region_list ?_
  have := list_sound hty hfn hQ ops.toList [] _ a w h (freeze_sound _ s hm)
  simpa using this
end Go.FK


/- A region whose order is open. -/
namespace Go.FK
open Go.RowKit
variable {P : Program} {X R : Type}
theorem hasT_mem {t : Tmp} : ∀ {l : List Tmp}, t ∈ l → hasT t l = true
  | u :: us, h => by
    rcases List.mem_cons.1 h with h | h
    · simp [hasT, h]
    · simp [hasT, hasT_mem h]
theorem allBelow_spec {p : Nat → Bool} : ∀ {n : Nat}, allBelow p n = true → ∀ j, j < n → p j = true
  | n + 1, h, j, hj => by
    simp only [allBelow, Bool.and_eq_true] at h
    rcases Nat.lt_succ_iff_lt_or_eq.1 hj with h' | h'
    · exact allBelow_spec h.2 j h'
    · rw [h']; exact h.1
def beforeF (acc : List Nat) (o : Oper) : Nat := o.after.toList.foldl (fun s e => if Region.binds .any e then s ||| 2 ^ e.on ||| nthD 0 acc e.on else s) 0
theorem beforeF_bit (acc : List Nat) (i : Nat) : ∀ (l : List Edge) (s : Nat), (l.foldl (fun s e => if Region.binds .any e then s ||| 2 ^ e.on ||| nthD 0 acc e.on else s) s).testBit i = true →
    s.testBit i = true ∨ ∃ e ∈ l, Region.binds .any e = true ∧ (i = e.on ∨ (nthD 0 acc e.on).testBit i = true)
  | [], s, h => .inl h
  | e :: l, s, h => by
    simp only [List.foldl_cons] at h
    rcases beforeF_bit acc i l _ h with h' | ⟨e', he', h1, h2⟩
    · by_cases hb : Region.binds .any e = true
      · rw [if_pos hb] at h'
        simp only [Nat.testBit_or, Nat.testBit_two_pow, Bool.or_eq_true, decide_eq_true_eq] at h'
        rcases h' with (h' | h') | h'
        · exact .inl h'
        · exact .inr ⟨e, by simp, hb, .inl h'.symm⟩
        · exact .inr ⟨e, by simp, hb, .inr h'⟩
      · rw [if_neg hb] at h'
        exact .inl h'
    · exact .inr ⟨e', by simp [he'], h1, h2⟩
theorem befores_spec : ∀ (l : List Oper) (acc : List Nat), ∃ more, befores l acc = acc ++ more ∧ more.length = l.length ∧
    ∀ k o, l[k]? = some o → nthD 0 (befores l acc) (acc.length + k) = beforeF ((befores l acc).take (acc.length + k)) o
  | [], acc => ⟨[], by simp [befores], rfl, fun k o h => by simp at h⟩
  | o :: rest, acc => by
    obtain ⟨more, h1, h2, h3⟩ := befores_spec rest (acc ++ [beforeF acc o])
    have e : befores (o :: rest) acc = befores rest (acc ++ [beforeF acc o]) := rfl
    refine ⟨beforeF acc o :: more, by rw [e, h1]; simp, by simp [h2], fun k p hp => ?_⟩
    cases k with
    | zero =>
      simp only [List.getElem?_cons_zero, Option.some.injEq] at hp
      subst hp
      rw [e, h1, nthD_eq]
      simp
    | succ k =>
      have := h3 k p (by simpa using hp)
      rw [e]
      simp only [List.length_append, List.length_singleton] at this
      have e2 : acc.length + (k + 1) = acc.length + 1 + k := by omega
      rw [e2]
      exact this
theorem before_bit {ops : List Oper} {j i : Nat} {o : Oper} (ho : ops[j]? = some o) (h : (nthD 0 (befores ops []) j).testBit i = true) :
    ∃ e ∈ o.after.toList, Region.binds .any e = true ∧ (i = e.on ∨ (nthD 0 (befores ops []) e.on).testBit i = true) := by
  obtain ⟨more, h1, h2, h3⟩ := befores_spec ops []
  have := h3 j o ho
  simp only [List.length_nil, Nat.zero_add] at this
  rw [this] at h
  rcases beforeF_bit _ i _ _ h with h | ⟨e, he, hb, h⟩
  · simp at h
  · refine ⟨e, he, hb, ?_⟩
    rcases h with h | h
    · exact .inl h
    · refine .inr ?_
      rw [nthD_eq] at h ⊢
      rw [List.getD_eq_getElem?_getD] at h ⊢
      rw [List.getElem?_take] at h
      split at h
      · exact h
      · simp at h
theorem befores_length (ops : List Oper) : (befores ops []).length = ops.length := by
  obtain ⟨more, h1, h2, _⟩ := befores_spec ops []
  rw [h1]; simpa using h2
def unl (S : Nat → Bool) : Nat → Nat
  | 0 => 0
  | n + 1 => unl S n + (if S n then 0 else 1)
theorem unl_zero {S : Nat → Bool} : ∀ {n : Nat}, unl S n = 0 → ∀ i, i < n → S i = true
  | n + 1, h, i, hi => by
    simp only [unl] at h
    rcases Nat.lt_succ_iff_lt_or_eq.1 hi with h' | h'
    · exact unl_zero (by omega) i h'
    · subst h'
      by_cases hs : S i = true
      · exact hs
      · simp [hs] at h
theorem unl_congr {S T : Nat → Bool} : ∀ {n : Nat}, (∀ i, i < n → S i = T i) → unl S n = unl T n
  | 0, _ => rfl
  | n + 1, h => by simp only [unl, unl_congr (n := n) (fun i hi => h i (by omega)), h n (by omega)]
theorem unl_set {S : Nat → Bool} {j : Nat} : ∀ {n : Nat}, j < n → S j = false → unl (fun i => i == j || S i) n + 1 = unl S n
  | n + 1, hj, hs => by
    simp only [unl]
    rcases Nat.lt_succ_iff_lt_or_eq.1 hj with h' | h'
    · have := unl_set (S := S) h' hs
      have hne : (n == j) = false := by simp; omega
      simp only [hne, Bool.false_or]
      omega
    · subst h'
      have : unl (fun i => i == j || S i) j = unl S j := unl_congr fun i hi => by
        have : (i == j) = false := by simp; omega
        simp [this]
      simp [this, hs]
def Sl (L : Array Bool) : Nat → Bool := fun i => L.getD i false
theorem Sl_set {L : Array Bool} {j : Nat} (hj : j < L.size) : Sl (L.setIfInBounds j true) = fun i => i == j || Sl L i := by
  funext i
  unfold Sl
  by_cases h : j = i
  · subst h; simp [hj]
  · have : (i == j) = false := by simp; exact fun e => h e.symm
    rw [getD_set_ne false h, this, Bool.false_or]
theorem Sl_ready {ops : List Oper} {L : Array Bool} (hsz : L.size = ops.length) {j : Nat} (h : j ∈ Region.ready .any ops.toArray L) :
    j < ops.length ∧ Sl L j = false ∧ ∃ o, ops[j]? = some o ∧ ∀ e ∈ o.after.toList, Region.binds .any e = true → Sl L e.on = true := by
  obtain ⟨h1, o, ho, h2⟩ := mem_ready.1 h
  have ho' : ops[j]? = some o := by simpa using ho
  have hlt : j < ops.length := (List.getElem?_eq_some_iff.1 ho').1
  refine ⟨hlt, ?_, o, ho', fun e he hb => h2 e (by simpa using he) hb⟩
  have hj : j < L.size := by omega
  simp only [Sl]
  simpa [Array.getD_eq_getD_getElem?, hj] using h1
theorem ready_of {ops : List Oper} {L : Array Bool} (hsz : L.size = ops.length) {j : Nat} {o : Oper} (ho : ops[j]? = some o) (hj : Sl L j = false) (he : ∀ e ∈ o.after.toList, Region.binds .any e = true → Sl L e.on = true) :
    j ∈ Region.ready .any ops.toArray L := by
  refine mem_ready.2 ⟨?_, o, by simpa using ho, fun e hm hb => he e (by simpa using hm) hb⟩
  have hlt : j < ops.length := (List.getElem?_eq_some_iff.1 ho).1
  have hj' : j < L.size := by omega
  simp only [Sl] at hj
  simpa [Array.getD_eq_getD_getElem?, hj'] using hj
structure Draw (H : Op → Bool) (ops : List Oper) (m : Nat) : Prop where
  le : m ≤ ops.length
  nosel : ∀ (j : Nat) (o : Oper) cs b, ops.toArray[j]? = some o → o.op ≠ .select cs b
  part : ∀ j i, m ≤ j → j < ops.length → i < j → (nthD 0 (befores ops []) j).testBit i = true ∨ ∃ p, ops[i]? = some p ∧ (pureB p.op || H p.op) = true
  apart : ∀ i p, ops[i]? = some p → (pureB p.op || H p.op) = true → ∀ j o, ops[j]? = some o → j ≠ i → (nthD 0 (befores ops []) i).testBit j = true ∨ (∃ e ∈ o.after.toList, Region.binds .any e = true ∧ e.on = i) ∨ p.apart ops.toArray o = true
  back : ∀ j o, ops[j]? = some o → ∀ e ∈ o.after.toList, Region.binds .any e = true → e.on < j
  one : ∀ i j p o d, i < m → j < m → ops[i]? = some p → ops[j]? = some o → p.dst = some d → o.dst = some d → i = j
  reads : ∀ i j p o d, i < m → j < m → ops[i]? = some p → ops[j]? = some o → p.dst = some d → d ∈ readsOf ops o → (i < j ∧ (nthD 0 (befores ops []) j).testBit i = true) ∨ (j < i ∧ (nthD 0 (befores ops []) i).testBit j = true)
theorem freeLen_le {E : Env X} : ∀ (l : List Oper), freeLen E l ≤ l.length
  | [] => Nat.le_refl _
  | o :: l => by unfold freeLen; split <;> simp [freeLen_le l]
theorem drawC_spec {E : Env X} {ops : List Oper} {H : Op → Bool} (h : drawC E ops H = true) : Draw H ops (freeLen E ops) := by
  unfold drawC at h
  simp only [Bool.and_eq_true] at h
  obtain ⟨hA, hB⟩ := h
  have hA' : ∀ j o, ops[j]? = some o → _ := fun j o ho => by
    have := allBelow_spec hA j (List.getElem?_eq_some_iff.1 ho).1
    simp only [ho, Bool.and_eq_true] at this
    exact this
  have hB' : ∀ j o, ops[j]? = some o → j < freeLen E ops → _ := fun j o ho hj => by
    have := allBelow_spec hB j hj
    simp only [ho] at this
    exact this
  refine ⟨freeLen_le ops, fun j o cs b ho e => ?_, fun j i hm hj hi => ?_, fun i p hp hpu j o ho hne => ?_, fun j o ho e he hb => ?_, fun i j p o d hi hj hp ho hd hd' => ?_, fun i j p o d hi hj hp ho hd hr => ?_⟩
  · have := (hA' j o (by simpa using ho)).1.1.1
    simp [selB, e] at this
  · obtain ⟨o, ho⟩ : ∃ o, ops[j]? = some o := ⟨ops[j], by simp [hj]⟩
    have := (hA' j o ho).1.2
    rw [if_pos hm] at this
    have := allBelow_spec this i hi
    obtain ⟨p, hp⟩ : ∃ p, ops[i]? = some p := ⟨ops[i]'(by omega), by simp⟩
    simp only [hp] at this
    rcases Bool.or_eq_true _ _ ▸ this with h | h
    · exact .inl h
    · exact .inr ⟨p, hp, h⟩
  · have := (hA' i p hp).2
    rw [if_pos hpu] at this
    have := allBelow_spec this j (List.getElem?_eq_some_iff.1 ho).1
    simp only [ho, Bool.or_eq_true, beq_iff_eq, List.any_eq_true, Bool.and_eq_true] at this
    rcases this with (h | h) | (⟨e, h1, h2, h3⟩ | h)
    · exact absurd h hne
    · exact .inl h
    · exact .inr (.inl ⟨e, h1, h2, h3⟩)
    · exact .inr (.inr h)
  · have := (hA' j o ho).1.1.2
    rw [List.all_eq_true] at this
    have := this e he
    simpa [hb] using this
  · have := allBelow_spec (hB' j o ho hj) i hi
    simp only [hp, hd, Bool.and_eq_true, Bool.or_eq_true] at this
    rcases this.1 with h | h
    · simpa using h
    · simp [hd'] at h
  · have := allBelow_spec (hB' j o ho hj) i hi
    simp only [hp, hd, Bool.and_eq_true, Bool.or_eq_true, hasT_mem hr, decide_eq_true_eq] at this
    rcases this.2 with (h | h) | h
    · simp at h
    · exact .inl h
    · exact .inr h
def maskOf (n0 b : Nat) (s : St) : Obs := fun id => bif decide (id < n0) || b.testBit (id - n0) then s.ob id else none
def PureSound (P : Program) (ρ : Operand → AV) (op : Op) (av : AV) : Prop :=
  ∀ (M : Nat → Prop) (ν : Nat → Value) (dom : Nat → Prop) (obs : Obs) (w : World) (a : Act) (o : Oper), o.op = op → (∀ x ∈ op.operands, RepA M ν dom obs w (ρ x) (a.eval x)) →
    ∃ v, (∀ w', (execOp a.eval o).run P w' = .ok (.value v) w') ∧ RepA M ν dom obs w av v
theorem pure_sound {E : Env X} {nid : Nat} {cons : Bool} {obsm : Obs} {ρ : Operand → AV} {op : Op} {K : AV → Option Ob → Option R} {r : R} (hp : pureB op = true) (h : freeK E nid cons obsm ρ op K = some r) :
    ∃ av, K av none = some r ∧ PureSound P ρ op av ∧ ∀ x, op = .move x → av = ρ x := by
  cases op <;> simp only [pureB, Bool.false_eq_true] at hp
  case move x =>
    refine ⟨ρ x, by simpa [freeK] using h, fun M ν dom obs w a o ho hr => ⟨a.eval x, fun w' => by simp [execOp, ho], hr x (by simp [Op.operands])⟩, fun y e => by cases e; rfl⟩
  case assign x =>
    refine ⟨ρ x, by simpa [freeK] using h, fun M ν dom obs w a o ho hr => ⟨a.eval x, fun w' => by simp [execOp, ho], hr x (by simp [Op.operands])⟩, fun y e => by cases e⟩
  case extract x j =>
    simp only [freeK] at h
    split at h
    · rename_i l hρ
      split at h
      · rename_i d hd
        refine ⟨_, h, fun M ν dom obs w a o ho hr => ?_, fun y e => by cases e⟩
        have hx := hr x (by simp [Op.operands])
        rw [hρ] at hx
        obtain ⟨vs, e, h1, h2⟩ := hx
        obtain ⟨u, hu, hrep⟩ := h2 j d hd
        exact ⟨u, fun w' => by simp [execOp, ho, e, Instr.extract, hu], hrep⟩
      · cases h
    · rename_i id l hρ
      cases j with
      | zero =>
        refine ⟨_, h, fun M ν dom obs w a o ho hr => ?_, fun y e => by cases e⟩
        have hx := hr x (by simp [Op.operands])
        rw [hρ] at hx
        obtain ⟨h1, vs, e, hsz, h0, hel⟩ := hx
        exact ⟨ν id, fun w' => by simp [execOp, ho, e, Instr.extract, h0], h1, rfl⟩
      | succ j =>
        simp only at h
        split at h
        · rename_i d hd
          refine ⟨_, h, fun M ν dom obs w a o ho hr => ?_, fun y e => by cases e⟩
          have hx := hr x (by simp [Op.operands])
          rw [hρ] at hx
          obtain ⟨h1, vs, e, hsz, h0, hel⟩ := hx
          obtain ⟨u, hu, hrep⟩ := hel j d hd
          exact ⟨u, fun w' => by simp [execOp, ho, e, Instr.extract, hu], hrep⟩
        · cases h
    · cases h
theorem PureSound.free {nid : Nat} {obsm : Obs} {ρ : Operand → AV} {op : Op} {av : AV} (h : PureSound P ρ op av) : FreeSound P nid obsm ρ op av none :=
  freeSound_pure fun M0 b0 ν obs dom w a o ho _ _ _ hr => by
    obtain ⟨v, h1, h2⟩ := h _ ν dom obs w a o ho hr
    exact ⟨v, h1 w, h2⟩
def StepOk (P : Program) (all : List Oper) (n0 : Nat) (o : Oper) (b : Nat) (s s' : St) : Prop :=
  ∃ av nob, s' = ⟨put s.fr o.dst av, s.obs ++ [nob]⟩ ∧ ((Way all s o true ∧ FreeSound P s.obs.length (maskOf n0 b s) (evA s.fr) o.op av nob ∧ (pureB o.op = true → nob = none ∧ PureSound P (evA s.fr) o.op av ∧ ∀ x, o.op = .move x → av = evA s.fr x) ∧ (∀ T x id ix p, o.op = .load T x → evA s.fr x = .ptr id ix p → nob = none ∧ LoadSound P (maskOf n0 b s) (evA s.fr) T x id av) ∧
    (∀ x id ix p, addrOf o.op = some x → evA s.fr x = .ptr id ix p → nob = none ∧ (∃ p', av = .ptr id ix p') ∧ AddrSound P (maskOf n0 b s) (evA s.fr) o.op av) ∧ (∀ T, (o.op = .alloc T ∨ ∃ x, o.op = .box T x) → av = .ptr s.obs.length 0 [] ∧ ∃ ob, nob = some ob) ∧
    (∀ T x t y, o.op = .load T x → evA s.fr x = .mem t y → nob = none ∧ LoadSoundM P (evA s.fr) T x av) ∧ (∀ x u (l : List u.D), addrOf o.op = some x → evA s.fr x = .val (.list u) l → nob = none ∧ 0 < l.length ∧ (∃ u' y', av = .mem u' y') ∧ AddrSoundL P (evA s.fr) o.op x av)) ∨ (Way all s o false ∧ av = .und ∧ nob = none))
theorem free_steps {E : Env X} (hty : ∀ T ti, E.ty T = some ti → TyOk P T ti) (hfn : FnsOk P E) {all : List Oper} {n0 : Nat} {K : St → Option R} {r : R} : ∀ (l : List Oper) (bl : List Nat) (s : St), l.length = bl.length →
    runOps E all n0 l (bl.map some) s K = some r → ∃ st : Nat → St, st 0 = s ∧ runOps E all n0 (l.drop (freeLen E l)) ((bl.drop (freeLen E l)).map some) (st (freeLen E l)) K = some r ∧
      ∀ j, j < freeLen E l → ∃ o b, l[j]? = some o ∧ bl[j]? = some b ∧ StepOk P all n0 o b (st j) (st (j + 1))
  | [], bl, s, _, h => ⟨fun _ => s, rfl, by simpa [freeLen] using h, fun j hj => by simp [freeLen] at hj⟩
  | o :: rest, [], s, hl, _ => by simp at hl
  | o :: rest, b :: bl, s, hl, h => by
    by_cases hE : isEff E o.op = true
    · refine ⟨fun _ => s, rfl, by simpa [freeLen, hE] using h, fun j hj => by simp [freeLen, hE] at hj⟩
    · have hE : isEff E o.op = false := by simpa using hE
      obtain ⟨y, hy, hk⟩ := runOps_cons h
      have hgo : ∀ s', StepOk P all n0 o b s s' → runOps E all n0 rest (bl.map some) s' K = some r → ∃ st : Nat → St, st 0 = s ∧ runOps E all n0 ((o :: rest).drop (freeLen E (o :: rest))) (((b :: bl).drop (freeLen E (o :: rest))).map some) (st (freeLen E (o :: rest))) K = some r ∧
          ∀ j, j < freeLen E (o :: rest) → ∃ p c, (o :: rest)[j]? = some p ∧ (b :: bl)[j]? = some c ∧ StepOk P all n0 p c (st j) (st (j + 1)) := by
        intro s' hs hr
        obtain ⟨st, h0, h1, h2⟩ := free_steps hty hfn rest bl s' (by simpa using hl) hr
        refine ⟨fun | 0 => s | j + 1 => st j, rfl, ?_, fun j hj => ?_⟩
        · simpa [freeLen, hE] using h1
        · cases j with
          | zero => exact ⟨o, b, rfl, rfl, by simpa [h0] using hs⟩
          | succ j =>
            obtain ⟨p, c, h3, h4, h5⟩ := h2 j (by simpa [freeLen, hE] using hj)
            exact ⟨p, c, by simpa using h3, by simpa using h4, h5⟩
      cases y
      · simp only [cond_false, skipK] at hk
        exact hgo _ ⟨_, _, rfl, .inr ⟨hy, rfl, rfl⟩⟩ (by simpa using hk)
      · have hE' : effD E (evA s.fr) o.op = false := by unfold effD; rw [hE]; rfl
        simp only [cond_true, stepK, hE', cond_false, List.map_cons] at hk
        by_cases hpu : pureB o.op = true
        · obtain ⟨av, hK, hS, hMv⟩ := pure_sound (P := P) hpu hk
          refine hgo _ ⟨av, none, rfl, .inl ⟨hy, hS.free, fun _ => ⟨rfl, hS, hMv⟩, (fun T x id ix p e _ => by rw [e] at hpu; cases hpu), (fun x id ix p e => ?_), (fun T e => ?_), (fun T x t y e _ => by rw [e] at hpu; cases hpu), (fun x u l e => ?_)⟩⟩ (by simpa using hK)
          · cases ho : o.op <;> simp [ho, pureB] at hpu <;> simp [ho, addrOf] at e
          · rcases e with e | ⟨x, e⟩ <;> rw [e] at hpu <;> cases hpu
          · cases ho : o.op <;> simp [ho, pureB] at hpu <;> simp [ho, addrOf] at e
        · by_cases hld : ∃ T x, o.op = .load T x
          · obtain ⟨T, x, e⟩ := hld
            rw [e] at hk
            obtain ⟨av, nob, hK, hS, hF, hFm⟩ := load_full hty hk
            refine hgo _ ⟨av, nob, rfl, .inl ⟨hy, by rw [e]; exact hS, fun h => absurd h hpu, fun T' x' id ix p e' hp => ?_, fun x id ix p e' => ?_, fun T e' => ?_, fun T' x' t y e' hp => ?_, fun x u l e' => ?_⟩⟩ (by simpa using hK)
            · rw [e] at e'
              cases e'
              exact hF id ix p hp
            · rw [e] at e'; cases e'
            · rcases e' with e' | ⟨x, e'⟩ <;> rw [e] at e' <;> cases e'
            · rw [e] at e'
              cases e'
              exact hFm t y hp
            · rw [e] at e'; cases e'
          · by_cases had : ∃ x id ix p, addrOf o.op = some x ∧ evA s.fr x = .ptr id ix p
            · obtain ⟨x, id, ix, p, e, hp⟩ := had
              obtain ⟨p', hK, hS⟩ := addr_full (P := P) hty e hp hk
              refine hgo _ ⟨_, none, rfl, .inl ⟨hy, hS.free, fun h => absurd h hpu, fun T x id ix p e => absurd ⟨T, x, e⟩ hld, fun x' id' ix' q e' hp' => ?_, fun T e' => ?_, fun T x t y e => absurd ⟨T, x, e⟩ hld, fun x' u l e' hp' => ?_⟩⟩ (by simpa using hK)
              · rw [e] at e'
                cases e'
                rw [hp] at hp'
                cases hp'
                exact ⟨rfl, ⟨p', rfl⟩, hS⟩
              · rcases e' with e' | ⟨x, e'⟩ <;> rw [e'] at e <;> cases e
              · rw [e] at e'
                cases e'
                rw [hp] at hp'
                cases hp'
            · by_cases hal : ∃ T, o.op = .alloc T ∨ ∃ x, o.op = .box T x
              · obtain ⟨T, e | ⟨x, e⟩⟩ := hal
                · rw [e] at hk
                  obtain ⟨ob, hK, hS⟩ := alloc_full hty hk
                  exact hgo _ ⟨_, some ob, rfl, .inl ⟨hy, by rw [e]; exact hS, fun h => absurd h hpu, fun T x id ix p e => absurd ⟨T, x, e⟩ hld, fun x id ix p e' hp => absurd ⟨x, id, ix, p, e', hp⟩ had, fun _ _ => ⟨rfl, ob, rfl⟩, fun T x t y e => absurd ⟨T, x, e⟩ hld, fun x u l e' => by rw [e] at e'; cases e'⟩⟩ (by simpa using hK)
                · rw [e] at hk
                  obtain ⟨ob, hK, hS⟩ := box_full hty hk
                  exact hgo _ ⟨_, some ob, rfl, .inl ⟨hy, by rw [e]; exact hS, fun h => absurd h hpu, fun T x id ix p e => absurd ⟨T, x, e⟩ hld, fun x id ix p e' hp => absurd ⟨x, id, ix, p, e', hp⟩ had, fun _ _ => ⟨rfl, ob, rfl⟩, fun T x t y e => absurd ⟨T, x, e⟩ hld, fun x u l e' => by rw [e] at e'; cases e'⟩⟩ (by simpa using hK)
              · by_cases hal2 : ∃ x u, ∃ l : List u.D, addrOf o.op = some x ∧ evA s.fr x = .val (.list u) l
                · obtain ⟨x, u, l, e, hp⟩ := hal2
                  obtain ⟨u', y', hK, hpos, hS⟩ := addrL_full (P := P) hty e hp hk
                  refine hgo _ ⟨_, none, rfl, .inl ⟨hy, hS.free, fun h => absurd h hpu, fun T x id ix p e => absurd ⟨T, x, e⟩ hld, fun x id ix p e' hp => absurd ⟨x, id, ix, p, e', hp⟩ had, fun T e' => absurd ⟨T, e'⟩ hal, fun T x t y e => absurd ⟨T, x, e⟩ hld, fun x' u2 l2 e' hp' => ?_⟩⟩ (by simpa using hK)
                  rw [e] at e'
                  cases e'
                  rw [hp] at hp'
                  cases hp'
                  exact ⟨rfl, hpos, ⟨u', y', rfl⟩, hS⟩
                · obtain ⟨av, nob, hK, hS⟩ := free_sound hty hfn.2.2.2 hfn.1 hfn.2.1 hk
                  exact hgo _ ⟨av, nob, rfl, .inl ⟨hy, hS, fun h => absurd h hpu, fun T x id ix p e => absurd ⟨T, x, e⟩ hld, fun x id ix p e' hp => absurd ⟨x, id, ix, p, e', hp⟩ had, fun T e' => absurd ⟨T, e'⟩ hal, fun T x t y e => absurd ⟨T, x, e⟩ hld, fun x u l e' hp => absurd ⟨x, u, l, e', hp⟩ hal2⟩⟩ (by simpa using hK)
end Go.FK


/- A region whose order is open: every order ends as the text's. -/
namespace Go.FK
open Go.RowKit
variable {P : Program} {X R : Type} {nt : NT}
structure Run (P : Program) (ops : List Oper) (m n0 : Nat) (st : Nat → St) : Prop where
  start : (st 0).obs.length = n0
  step : ∀ j, j < m → ∃ o b, ops[j]? = some o ∧ (befores ops [])[j]? = some b ∧ StepOk P ops n0 o b (st j) (st (j + 1))
theorem length_put (l : List AV) (d : Option Tmp) (v : AV) : (put l d v).length = l.length := by
  cases d <;> simp [put, length_setN]
theorem Run.len {ops : List Oper} {m n0 : Nat} {st : Nat → St} (h : Run P ops m n0 st) : ∀ j, j ≤ m → (st j).obs.length = n0 + j ∧ (st j).fr.length = (st 0).fr.length
  | 0, _ => ⟨by simpa using h.start, rfl⟩
  | j + 1, hj => by
    obtain ⟨o, b, _, _, av, nob, e, _⟩ := h.step j (by omega)
    have := h.len j (by omega)
    rw [e]
    exact ⟨by simp [this.1]; omega, by simp [length_put, this.2]⟩
theorem Run.obs {ops : List Oper} {m n0 : Nat} {st : Nat → St} (h : Run P ops m n0 st) {j : Nat} : ∀ k, j ≤ k → k ≤ m → ∀ id, id < n0 + j → obF (st k).obs id = obF (st j).obs id := by
  intro k
  induction k with
  | zero => intro hj _ id _; have : j = 0 := by omega
            subst this; rfl
  | succ k ih =>
    intro hj hk id hid
    rcases Nat.lt_or_ge k j with h' | h'
    · have : j = k + 1 := by omega
      subst this; rfl
    · rw [← ih h' (by omega) id hid]
      obtain ⟨o, b, _, _, av, nob, e, _⟩ := h.step k (by omega)
      have hl := (h.len k (by omega)).1
      rw [e]
      simp only [obF_snoc, upd]
      rw [if_neg (by omega)]
theorem Run.fr {ops : List Oper} {m n0 : Nat} {st : Nat → St} (h : Run P ops m n0 st) {t : Tmp} {j : Nat} : ∀ k, j ≤ k → k ≤ m → (∀ i o, j ≤ i → i < k → ops[i]? = some o → o.dst ≠ some t) → nthD .bad (st k).fr t = nthD .bad (st j).fr t := by
  intro k
  induction k with
  | zero => intro hj _ _; have : j = 0 := by omega
            subst this; rfl
  | succ k ih =>
    intro hj hk hn
    rcases Nat.lt_or_ge k j with h' | h'
    · have : j = k + 1 := by omega
      subst this; rfl
    · rw [← ih h' (by omega) fun i o h1 h2 h3 => hn i o h1 (by omega) h3]
      obtain ⟨o, b, ho, _, av, nob, e, _⟩ := h.step k (by omega)
      rw [e]
      exact nthD_put (hn k o h' (by omega) ho)
def obsS (n0 : Nat) (obs : Obs) (S : Nat → Bool) : Obs := fun id => if (decide (id < n0) || S (id - n0)) = true then obs id else none
def domS (n0 : Nat) (S : Nat → Bool) : Nat → Prop := fun id => (decide (id < n0) || S (id - n0)) = true
def DInv (ops : List Oper) (m n0 : Nat) (st : Nat → St) (M0 : Nat → Prop) (b0 : Nat → Prop) (w0 : World) (nt : NT) (S : Nat → Bool) (a : Act) (w : World) : Prop :=
  a.defers = nt.df ∧ Beyond b0 w0 w ∧ a.tmps.size = (st 0).fr.length ∧ a.tmps.size = nt.n ∧ ∃ ν, Rows nt.ro ν n0 ∧ Good M0 b0 ν (obsS n0 (obF (st m).obs) S) w ∧ ∀ t,
    (∀ i o, i < m → ops[i]? = some o → o.dst = some t → S i = true → RepA (Msum M0 ν (obsS n0 (obF (st m).obs) S)) ν (domS n0 S) (obsS n0 (obF (st m).obs) S) w (nthD .bad (st (i + 1)).fr t) (a.tmps.getD t undef)) ∧
    ((∀ i o, i < m → ops[i]? = some o → o.dst = some t → S i = false) → RepA (Msum M0 ν (obsS n0 (obF (st m).obs) S)) ν (domS n0 S) (obsS n0 (obF (st m).obs) S) w (nthD .bad (st 0).fr t) (a.tmps.getD t undef))
theorem obsS_step {n0 j : Nat} {obs : Obs} {S : Nat → Bool} : obsS n0 obs (fun i => i == j || S i) = upd (obsS n0 obs S) (n0 + j) (obs (n0 + j)) := by
  funext id
  simp only [obsS, upd]
  by_cases h : id = n0 + j
  · subst h
    have : n0 + j - n0 = j := by omega
    simp [this]
  · rw [if_neg h]
    by_cases h' : id < n0
    · simp [h']
    · have : (id - n0 == j) = false := by simp; omega
      simp [this]
theorem domS_step {n0 j : Nat} {S : Nat → Bool} : domS n0 (fun i => i == j || S i) = fun id => domS n0 S id ∨ id = n0 + j := by
  funext id
  apply propext
  simp only [domS, Bool.or_eq_true, decide_eq_true_eq, beq_iff_eq]
  constructor
  · rintro (h | h | h)
    · exact .inl (.inl h)
    · rcases Nat.lt_or_ge id n0 with h' | h'
      · exact .inl (.inl h')
      · exact .inr (by omega)
    · exact .inl (.inr h)
  · rintro ((h | h) | h)
    · exact .inl h
    · exact .inr (.inr h)
    · exact .inr (.inl (by omega))
theorem domS_not {n0 j : Nat} {S : Nat → Bool} (h : S j = false) : ¬ domS n0 S (n0 + j) := by
  have : n0 + j - n0 = j := by omega
  simp [domS, this, h]
theorem dinv_step {H : Op → Bool} {ops : List Oper} {m n0 : Nat} {st : Nat → St} (hd : Draw H ops m) (hr : Run P ops m n0 st) {M0 : Nat → Prop} {b0 : Nat → Prop} {w0 : World} {S : Nat → Bool} {a : Act} {w : World} {j : Nat} (hj : j < m) (hs : S j = false) {o : Oper} (ho : ops[j]? = some o)
    {ν ν' : Nat → Value} {w' : World} {v : Value} {av : AV} {nob : Option Ob} (hst : st (j + 1) = ⟨put (st j).fr o.dst av, (st j).obs ++ [nob]⟩)
    (h1 : a.defers = nt.df) (h2 : Beyond b0 w0 w) (h3 : a.tmps.size = (st 0).fr.length) (hn3 : a.tmps.size = nt.n) (hw : Rows nt.ro ν n0) (hg : Good M0 b0 ν (obsS n0 (obF (st m).obs) S) w)
    (h4 : ∀ t, (∀ i o, i < m → ops[i]? = some o → o.dst = some t → S i = true → RepA (Msum M0 ν (obsS n0 (obF (st m).obs) S)) ν (domS n0 S) (obsS n0 (obF (st m).obs) S) w (nthD .bad (st (i + 1)).fr t) (a.tmps.getD t undef)) ∧
      ((∀ i o, i < m → ops[i]? = some o → o.dst = some t → S i = false) → RepA (Msum M0 ν (obsS n0 (obF (st m).obs) S)) ν (domS n0 S) (obsS n0 (obF (st m).obs) S) w (nthD .bad (st 0).fr t) (a.tmps.getD t undef)))
    (hL : Later M0 (n0 + j) ν ν' (obsS n0 (obF (st m).obs) S) nob w w') (hG : Good M0 b0 ν' (upd (obsS n0 (obF (st m).obs) S) (n0 + j) nob) w')
    (hR : RepA (Msum M0 ν' (upd (obsS n0 (obF (st m).obs) S) (n0 + j) nob)) ν' (fun id => domS n0 S id ∨ id = n0 + j) (upd (obsS n0 (obF (st m).obs) S) (n0 + j) nob) w' av v) :
    DInv ops m n0 st M0 b0 w0 nt (fun i => i == j || S i) (a.put o.dst v) w' := by
  have hnob : obF (st m).obs (n0 + j) = nob := by
    rw [hr.obs m hj (Nat.le_refl _) (n0 + j) (by omega), hst]
    simp only [obF_snoc, upd]
    rw [if_pos (by rw [(hr.len j (by omega)).1])]
  have e1 : obsS n0 (obF (st m).obs) (fun i => i == j || S i) = upd (obsS n0 (obF (st m).obs) S) (n0 + j) nob := by rw [obsS_step, hnob]
  have hkeep : ∀ {x : AV} {u : Value}, RepA (Msum M0 ν (obsS n0 (obF (st m).obs) S)) ν (domS n0 S) (obsS n0 (obF (st m).obs) S) w x u →
      RepA (Msum M0 ν' (upd (obsS n0 (obF (st m).obs) S) (n0 + j) nob)) ν' (fun id => domS n0 S id ∨ id = n0 + j) (upd (obsS n0 (obF (st m).obs) S) (n0 + j) nob) w' x u := fun h => h.later hL (domS_not hs)
  refine ⟨by cases h : o.dst <;> simpa [Act.put, h] using h1, h2.trans (Beyond.of_below hL.below hg.hb), by cases h : o.dst <;> simpa [Act.put, h] using h3, by cases h : o.dst <;> simpa [Act.put, h] using hn3, ν', hw.next (Nat.le_refl _) (fun j hj => hL.nu j (by omega)), ?_⟩
  rw [e1, domS_step]
  refine ⟨hG, fun t => ?_⟩
  by_cases hdt : o.dst = some t
  · -- the slot just written
    have hval : RepA (Msum M0 ν' (upd (obsS n0 (obF (st m).obs) S) (n0 + j) nob)) ν' (fun id => domS n0 S id ∨ id = n0 + j) (upd (obsS n0 (obF (st m).obs) S) (n0 + j) nob) w' (nthD .bad (st (j + 1)).fr t) ((a.put o.dst v).tmps.getD t undef) := by
      rw [hst, hdt]
      simp only [put, Act.put]
      rw [nthD_setN]
      by_cases hlt : t < (st j).fr.length
      · rw [if_pos ⟨rfl, hlt⟩]
        have hlt' : t < a.tmps.size := by rw [h3, ← (hr.len j (by omega)).2]; exact hlt
        have : (a.tmps.setIfInBounds t v).getD t undef = v := by simp [Array.getD_eq_getD_getElem?, hlt']
        rw [this]
        exact hR
      · rw [if_neg (fun h => hlt h.2)]
        have : nthD AV.bad (st j).fr t = .bad := by rw [nthD_eq, List.getD_eq_getElem?_getD, List.getElem?_eq_none (Nat.le_of_not_lt hlt)]; rfl
        rw [this]
        trivial
    refine ⟨fun i p hi hp hpd _ => ?_, fun hall => ?_⟩
    · have : i = j := hd.one i j p o t hi hj hp ho hpd hdt
      subst this
      exact hval
    · have := hall j o hj ho hdt
      simp at this
  · have hcell : (a.put o.dst v).tmps.getD t undef = a.tmps.getD t undef := by
      cases h : o.dst with
      | none => rfl
      | some u =>
        have hne : u ≠ t := fun e => hdt (by rw [h, e])
        simp [Act.put, Array.getD_eq_getD_getElem?, Array.getElem?_setIfInBounds_ne hne]
    rw [hcell]
    refine ⟨fun i p hi hp hpd hsi => ?_, fun hall => ?_⟩
    · have hij : (i == j) = false := by
        simp only [beq_eq_false_iff_ne]
        intro e
        subst e
        rw [ho] at hp
        cases hp
        exact hdt hpd
      simp only [hij, Bool.false_or] at hsi
      exact hkeep ((h4 t).1 i p hi hp hpd hsi)
    · refine hkeep ((h4 t).2 fun i p hi hp hpd => ?_)
      have := hall i p hi hp hpd
      simp only [Bool.or_eq_false_iff] at this
      exact this.2
theorem dinv_read {H : Op → Bool} {ops : List Oper} {m n0 : Nat} {st : Nat → St} (hd : Draw H ops m) (hr : Run P ops m n0 st) {M0 : Nat → Prop} {S : Nat → Bool} {a : Act} {w : World} {j : Nat} (hj : j < m) (hs : S j = false) {o : Oper} (ho : ops[j]? = some o)
    (hrdy : ∀ i, (nthD 0 (befores ops []) j).testBit i = true → S i = true) (hcl : ∀ i, i < m → S i = true → ∀ k, (nthD 0 (befores ops []) i).testBit k = true → S k = true) {ν : Nat → Value}
    (h4 : ∀ t, (∀ i o, i < m → ops[i]? = some o → o.dst = some t → S i = true → RepA (Msum M0 ν (obsS n0 (obF (st m).obs) S)) ν (domS n0 S) (obsS n0 (obF (st m).obs) S) w (nthD .bad (st (i + 1)).fr t) (a.tmps.getD t undef)) ∧
      ((∀ i o, i < m → ops[i]? = some o → o.dst = some t → S i = false) → RepA (Msum M0 ν (obsS n0 (obF (st m).obs) S)) ν (domS n0 S) (obsS n0 (obF (st m).obs) S) w (nthD .bad (st 0).fr t) (a.tmps.getD t undef)))
    {t : Tmp} (ht : t ∈ readsOf ops o) : RepA (Msum M0 ν (obsS n0 (obF (st m).obs) S)) ν (domS n0 S) (obsS n0 (obF (st m).obs) S) w (nthD .bad (st j).fr t) (a.tmps.getD t undef) := by
  by_cases hex : ∃ i p, i < m ∧ ops[i]? = some p ∧ p.dst = some t
  · obtain ⟨i, p, hi, hp, hpd⟩ := hex
    rcases hd.reads i j p o t hi hj hp ho hpd ht with ⟨h1, h2⟩ | ⟨h1, h2⟩
    · have := (h4 t).1 i p hi hp hpd (hrdy i h2)
      rwa [← hr.fr j h1 (by omega) fun k q h5 h6 hq e => by
        have := hd.one i k p q t hi (by omega) hp hq hpd e
        omega] at this
    · have hSi : S i = false := by
        cases h : S i with
        | false => rfl
        | true => have := hcl i hi h j h2
                  rw [hs] at this; cases this
      have := (h4 t).2 fun k q hk hq e => by
        have := hd.one i k p q t hi hk hp hq hpd e
        rw [← this]; exact hSi
      rwa [← hr.fr j (Nat.zero_le _) (by omega) fun k q h5 h6 hq e => by
        have := hd.one i k p q t hi (by omega) hp hq hpd e
        omega] at this
  · have := (h4 t).2 fun k q hk hq e => absurd ⟨k, q, hk, hq, e⟩ hex
    rwa [← hr.fr j (Nat.zero_le _) (by omega) fun k q h5 h6 hq e => hex ⟨k, q, by omega, hq, e⟩] at this
theorem dinv_start {ops : List Oper} {m n0 : Nat} {st : Nat → St} (hr : Run P ops m n0 st) {M0 : Nat → Prop} {b0 : Nat → Prop} {w0 : World} {a : Act} {w : World} (hm : Matches M0 b0 w0 nt (st 0) a w) : DInv ops m n0 st M0 b0 w0 nt (fun _ => false) a w := by
  obtain ⟨h1, h2, h3, hn3, ν, hw, hg, h4⟩ := hm
  have e1 : obsS n0 (obF (st m).obs) (fun _ => false) = obF (st 0).obs := by
    funext id
    simp only [obsS, Bool.or_false, decide_eq_true_eq]
    split
    · rename_i h
      exact hr.obs m (Nat.zero_le _) (Nat.le_refl _) id (by simpa using h)
    · rename_i h
      cases hx : obF (st 0).obs id with
      | none => rfl
      | some ob => have := obF_lt hx
                   have := hr.start
                   omega
  have e2 : domS n0 (fun _ => false) = (· < (st 0).obs.length) := by
    funext id
    simp [domS, hr.start]
  refine ⟨h1, h2, h3, hn3, ν, by rw [← hr.start]; exact hw, ?_⟩
  rw [e1, e2]
  exact ⟨hg, fun t => ⟨fun i o _ _ _ h => by simp at h, fun _ => h4 t⟩⟩
theorem dinv_end {H : Op → Bool} {ops : List Oper} {m n0 : Nat} {st : Nat → St} (hd : Draw H ops m) (hr : Run P ops m n0 st) {M0 : Nat → Prop} {b0 : Nat → Prop} {w0 : World} {S : Nat → Bool} {a : Act} {w : World} (hS : ∀ i, S i = true ↔ i < m) (h : DInv ops m n0 st M0 b0 w0 nt S a w) :
    Matches M0 b0 w0 nt (st m) a w := by
  obtain ⟨h1, h2, h3, hn3, ν, hw, hg, h4⟩ := h
  have hl := hr.len m (Nat.le_refl _)
  have e1 : obsS n0 (obF (st m).obs) S = obF (st m).obs := by
    funext id
    simp only [obsS, Bool.or_eq_true, decide_eq_true_eq, hS]
    split
    · rfl
    · rename_i h
      cases hx : obF (st m).obs id with
      | none => rfl
      | some ob => have := obF_lt hx
                   omega
  have e2 : domS n0 S = (· < (st m).obs.length) := by
    funext id
    apply propext
    simp only [domS, Bool.or_eq_true, decide_eq_true_eq, hS, hl.1]
    omega
  rw [e1, e2] at h4
  rw [e1] at hg
  refine ⟨h1, h2, by rw [h3, hl.2], hn3, ν, hw.next (by omega) (fun _ _ => rfl), hg, fun t => ?_⟩
  by_cases hex : ∃ i p, i < m ∧ ops[i]? = some p ∧ p.dst = some t
  · obtain ⟨i, p, hi, hp, hpd⟩ := hex
    have := (h4 t).1 i p hi hp hpd ((hS i).2 hi)
    rwa [← hr.fr m hi (Nat.le_refl _) fun k q h5 h6 hq e => by
      have := hd.one i k p q t hi (by omega) hp hq hpd e
      omega] at this
  · have := (h4 t).2 fun k q hk hq e => absurd ⟨k, q, hk, hq, e⟩ hex
    rwa [← hr.fr m (Nat.zero_le _) (Nat.le_refl _) fun k q h5 h6 hq e => hex ⟨k, q, by omega, hq, e⟩] at this
end Go.FK


/- A region: whatever its order, what the interpreter finds holds of the machine. -/
namespace Go.FK
open Go.RowKit
variable {P : Program} {X R : Type} {nt : NT}
theorem exists_least {p : Nat → Bool} : ∀ (n i : Nat), i < n → p i = false → ∃ k, k ≤ i ∧ p k = false ∧ ∀ j, j < k → p j = true := by
  intro n
  induction n with
  | zero => intro i hi; omega
  | succ n ih =>
    intro i hi hp
    by_cases h : ∃ j, j < i ∧ p j = false
    · obtain ⟨j, hj, hpj⟩ := h
      obtain ⟨k, h1, h2, h3⟩ := ih j (by omega) hpj
      exact ⟨k, by omega, h2, h3⟩
    · exact ⟨i, Nat.le_refl _, hp, fun j hj => by
        cases hx : p j with
        | true => rfl
        | false => exact absurd ⟨j, hj, hx⟩ h⟩
theorem ready_ne {ops : List Oper} {m : Nat} {H : Op → Bool} (hd : Draw H ops m) {L : Array Bool} (hsz : L.size = ops.length) {i : Nat} (hi : i < ops.length) (hs : Sl L i = false) : Region.ready .any ops.toArray L ≠ [] := by
  obtain ⟨k, h1, h2, h3⟩ := exists_least ops.length i hi hs
  have hk : k < ops.length := by omega
  obtain ⟨o, ho⟩ : ∃ o, ops[k]? = some o := ⟨ops[k], by simp [hk]⟩
  have := ready_of hsz ho h2 fun e he hb => h3 _ (hd.back k o ho e he hb)
  intro h
  rw [h] at this
  cases this
theorem ready_before {ops : List Oper} {L : Array Bool} (hcl : ∀ i, Sl L i = true → ∀ k, (nthD 0 (befores ops []) i).testBit k = true → Sl L k = true) {j : Nat} {o : Oper} (ho : ops[j]? = some o)
    (he : ∀ e ∈ o.after.toList, Region.binds .any e = true → Sl L e.on = true) {i : Nat} (h : (nthD 0 (befores ops []) j).testBit i = true) : Sl L i = true := by
  obtain ⟨e, h1, h2, h3⟩ := before_bit ho h
  rcases h3 with h3 | h3
  · rw [h3]; exact he e h1 h2
  · exact hcl _ (he e h1 h2) i h3
theorem Sl_lt {L : Array Bool} {i : Nat} (h : Sl L i = true) : i < L.size := by
  rcases Nat.lt_or_ge i L.size with h' | h'
  · exact h'
  · simp [Sl, Array.getD_eq_getD_getElem?, Array.getElem?_eq_none h'] at h
theorem closed_set {ops : List Oper} {L : Array Bool} (hcl : ∀ i, Sl L i = true → ∀ k, (nthD 0 (befores ops []) i).testBit k = true → Sl L k = true) {j : Nat} {o : Oper} (ho : ops[j]? = some o) (hj : j < L.size)
    (he : ∀ e ∈ o.after.toList, Region.binds .any e = true → Sl L e.on = true) : ∀ i, Sl (L.setIfInBounds j true) i = true → ∀ k, (nthD 0 (befores ops []) i).testBit k = true → Sl (L.setIfInBounds j true) k = true := by
  intro i hi k hk
  rw [Sl_set hj] at hi ⊢
  simp only [Bool.or_eq_true, beq_iff_eq] at hi ⊢
  rcases hi with hi | hi
  · subst hi
    exact .inr (ready_before hcl ho he hk)
  · exact .inr (hcl i hi k hk)
def Held (HI : Nat → Prop) (ro : List Value) (wS w : World) : Prop := ∀ id v b, HI id → ro[id]? = some v → v.ownBlock = some b → b < w.heap.size ∧ w.heap[b]? = wS.heap[b]?
theorem Held.below {HI : Nat → Prop} {ro : List Value} {wS w w' : World} (h : Held HI ro wS w) (hb : Below w.heap.size w w') : Held HI ro wS w' := fun id v b h1 h2 h3 => by
  obtain ⟨k1, k2⟩ := h id v b h1 h2 h3
  exact ⟨Nat.lt_of_lt_of_le k1 hb.size, (hb.block b k1).trans k2⟩
theorem Held.grown {HI : Nat → Prop} {ro : List Value} {wS w w' : World} {row : Option Nat} (h : Held HI ro wS w) (hb : w.grownBy w' row) (hr : ∀ id v b, HI id → ro[id]? = some v → v.ownBlock = some b → row ≠ some b) : Held HI ro wS w' := fun id v b h1 h2 h3 => by
  obtain ⟨k1, k2⟩ := h id v b h1 h2 h3
  exact ⟨Nat.lt_of_lt_of_le k1 hb.size, (hb.block b k1 fun e => hr id v b h1 h2 h3 e.symm).trans k2⟩
def SS (HI : Nat → Prop) (ro : List Value) (wS : World) (b0 : Nat → Prop) (w0 : World) (w : World) : Prop := Held HI ro wS w ∧ ∀ b, ¬ b0 b → w.heap[b]? = w0.heap[b]?
def UL (fr0 : List AV) (ops : List Oper) (z : Nat) : Prop := (∀ (k : Nat) o', ops[k]? = some o' → o'.dst ≠ some z) ∧ ∃ u, ∃ l : List (Ty.D u), nthD .bad fr0 z = .val (.list u) l
def MV (fr0 : List AV) (ops : List Oper) (o : Oper) (z : Nat) : Prop := o.op = .move (.tmp z) ∧ UL fr0 ops z
def MA (fr0 : List AV) (ops : List Oper) (o : Oper) : Prop := ∃ y z : Nat, addrOf o.op = some (.tmp y) ∧ UL fr0 ops z ∧ (y = z ∨ y < fr0.length ∧ ∃ (i : Nat) (om : Oper), defAt ops y = some om ∧ ops[i]? = some om ∧ om.op = .move (.tmp z) ∧ ∀ k, ops[k]? = some o → i < k)
def MX (fr0 : List AV) (ops : List Oper) (o : Oper) : Prop := MA fr0 ops o ∨ ∃ z, MV fr0 ops o z
def JV (b0 : Nat → Prop) (fr0 : List AV) (u0 : Nat → Value) (ops : List Oper) (o : Oper) (v : Value) : Prop := (MA fr0 ops o → o.guard = none → ∃ ad : Addr, v = .pointer (some ad) ∧ ¬ b0 ad.block) ∧ ∀ z, MV fr0 ops o z → o.guard = none → v = u0 z
theorem JV.not {b0 : Nat → Prop} {fr0 : List AV} {u0 : Nat → Value} {ops : List Oper} {o : Oper} (h : ¬ MX fr0 ops o) (v : Value) : JV b0 fr0 u0 ops o v := ⟨fun h' => absurd (.inl h') h, fun z h' => absurd (.inr ⟨z, h'⟩) h⟩
structure JJ (b0 : Nat → Prop) (fr0 : List AV) (u0 : Nat → Value) (ops : List Oper) (S : Nat → Bool) (a : Act) : Prop where
  slot : ∀ y, (∀ (k : Nat) o', ops[k]? = some o' → o'.dst ≠ some y) → a.tmps.getD y undef = u0 y
  mv : ∀ t z i o, defAt ops t = some o → ops[i]? = some o → MV fr0 ops o z → t < fr0.length → S i = true → a.tmps.getD t undef = u0 z
  addr : ∀ t i o, defAt ops t = some o → ops[i]? = some o → MA fr0 ops o → t < fr0.length → S i = true → ∃ ad : Addr, a.tmps.getD t undef = .pointer (some ad) ∧ ¬ b0 ad.block
theorem take_first {ops : List Oper} {m : Nat} {H : Op → Bool} (hd : Draw H ops m) {S : World → Prop} {i : Nat} {p : Oper} (hp : ops[i]? = some p) (hpu : (pureB p.op || H p.op) = true) {L : Array Bool} (hrdy : i ∈ Region.ready .any ops.toArray L) (hb : ∀ k, (nthD 0 (befores ops []) i).testBit k = true → Sl L k = true) (hsz : L.size = ops.length)
    {Q : Exit → Act → World → Prop} (hQ : ∀ c a w, ¬ Q (.panic c) a w) {fuel : Nat} {v : Value} {a : Act} {w : World} (hy : YieldsIf P ops.toArray S p v a) (hS : S w) (h : wpAnyH P .any ops.toArray Q S fuel (L.setIfInBounds i true) (a.put p.dst v) w) : wpAnyH P .any ops.toArray Q S (fuel + 1) L a w := by
  refine wpAnyH_first (by simpa using hp) (fun j o cs b ho => hd.nosel j o cs b ho) (fun c a w hc => absurd hc (hQ c _ w)) fuel L a w (fun j oj hj hne hun hno => ?_) hrdy hy hS h
  have hj' : ops[j]? = some oj := by simpa using hj
  rcases hd.apart i p hp hpu j oj hj' hne with h | ⟨e, h1, h2, h3⟩ | h
  · have := hb j h
    have hlt : j < L.size := by have := (List.getElem?_eq_some_iff.1 hj').1; omega
    simp only [Sl] at this
    simp [Array.getD_eq_getD_getElem?, hlt] at this hun
    rw [this] at hun
    cases hun
  · exact absurd h3 (hno e (by simpa using h1) h2)
  · exact h
theorem before_lt {ops : List Oper} {m : Nat} {H : Op → Bool} (hd : Draw H ops m) : ∀ n i q, i < n → (nthD 0 (befores ops []) i).testBit q = true → q < i := by
  intro n
  induction n with
  | zero => intro i q hi; omega
  | succ n ihn =>
    intro i q hi hq
    have hil : i < ops.length := by
      rcases Nat.lt_or_ge i ops.length with h' | h'
      · exact h'
      · rw [nthD_eq, List.getD_eq_getElem?_getD, List.getElem?_eq_none (by rw [befores_length]; exact h')] at hq
        simp at hq
    obtain ⟨p, hp⟩ : ∃ p, ops[i]? = some p := ⟨ops[i], by simp [hil]⟩
    obtain ⟨e, h5, h6, h7⟩ := before_bit hp hq
    have hb := hd.back i p hp e h5 h6
    rcases h7 with h7 | h7
    · omega
    · have := ihn e.on q (by omega) h7
      omega
theorem yields_of {a : Act} {all : List Oper} {o : Oper} {v : Value} {y : Bool} (hw : Region.wanted o (yielded all.toArray a.tmps) = y) (h1 : y = true → ∀ w, (execOp a.eval o).run P w = .ok (.value v) w) (h2 : y = false → v = undef) : Yields P all.toArray o v a := by
  cases y
  · exact .inr ⟨hw, h2 rfl⟩
  · exact .inl ⟨hw, h1 rfl⟩
theorem pure_step {E : Env X} {all : List Oper} {n0 : Nat} {o : Oper} {rest : List Oper} {bs : List (Option Nat)} {s : St} {K : St → Option R} {r : R} (hpu : pureB o.op = true)
    (h : runOps E all n0 (o :: rest) bs s K = some r) {M0 : Nat → Prop} {b0 : Nat → Prop} {w0 w : World} {a : Act} (hm : Matches M0 b0 w0 nt s a w) :
    ∃ v s', (∀ t, o.dst ≠ some t → nthD .bad s'.fr t = nthD .bad s.fr t) ∧ Yields P all.toArray o v a ∧ runOps E all n0 rest (bs.drop 1) s' K = some r ∧ Matches M0 b0 w0 nt s' (a.put o.dst v) w := by
  obtain ⟨y, hy, hk⟩ := runOps_cons h
  have hwt := hy.wanted hm
  cases y
  · simp only [cond_false, skipK] at hk
    exact ⟨undef, _, fun _ ht => nthD_put ht, yields_of hwt (fun h => by cases h) (fun _ => rfl), hk, skip_matches hm o.dst⟩
  · have hE0 : isEff E o.op = false := by
      cases ho : o.op <;> simp [pureB, ho] at hpu <;> simp [isEff]
    have hE : effD E (evA s.fr) o.op = false := by unfold effD; rw [hE0]; rfl
    simp only [cond_true, stepK, hE, cond_false] at hk
    obtain ⟨av, hK, hS, _⟩ := pure_sound (P := P) hpu hk
    obtain ⟨h1, h2, h3, hn3, ν, hw, hg, hr⟩ := hm
    obtain ⟨v, hv, hrep⟩ := hS (Msum M0 ν (obF s.obs)) ν (· < s.obs.length) (obF s.obs) w a o rfl (fun x _ => evA_rep hg.glM hr x)
    refine ⟨v, _, fun _ ht => nthD_put ht, yields_of hwt (fun _ => hv) (fun h => by cases h), hK, ?_⟩
    have hnone : obF s.obs s.obs.length = none := by
      cases hx : obF s.obs s.obs.length with
      | none => rfl
      | some ob => exact absurd (obF_lt hx) (Nat.lt_irrefl _)
    obtain ⟨hL, hG⟩ := hg.same hnone (Below.refl _ w)
    have hdom : (fun id => id < s.obs.length ∨ id = s.obs.length) = (· < (s.obs ++ [none]).length) := by
      funext id
      apply propext
      simp
      omega
    have hF := obF_snoc s.obs none
    have hkeep : ∀ {av : AV} {v : Value}, RepA (Msum M0 ν (obF s.obs)) ν (· < s.obs.length) (obF s.obs) w av v → RepA (Msum M0 ν (obF (s.obs ++ [none]))) ν (· < (s.obs ++ [none]).length) (obF (s.obs ++ [none])) w av v := by
      intro av v hr
      have := RepA.later (dom := (· < s.obs.length)) hL (Nat.lt_irrefl _) hr
      rw [hF, ← hdom]
      exact this
    exact put_matches h1 h2 h3 hn3 (hw.next (by simp) (fun _ _ => rfl)) (by rw [hF]; exact hG) (fun t => hkeep (hr t)) o.dst (hkeep hrep)
def TailOk (HI : Nat → Prop) (roS roT : List Value) (fr0 : List AV) (ops : List Oper) (m : Nat) : Prop :=
  (∀ id, ¬ HI id) ∨ ∀ j o, m ≤ j → ops[j]? = some o → pureB o.op = true ∨ ∃ T y x, o.op = .store T (.tmp y) x ∧ (∀ (k : Nat) o', m ≤ k → ops[k]? = some o' → o'.dst ≠ some y) ∧ ∀ id ix path, nthD .bad fr0 y = .ptr id ix path → ∃ v, roT[id]? = some v ∧
    ∀ id' v' b, HI id' → roS[id']? = some v' → v'.ownBlock = some b → v.ownBlock ≠ some b
theorem held_step {E : Env X} (hty : ∀ T ti, E.ty T = some ti → TyOk P T ti) {HI : Nat → Prop} {roS : List Value} {wS : World} {fr0 : List AV} {ops : List Oper} {m n0 j : Nat} {o : Oper} {rest : List Oper} {bs : List (Option Nat)} {s : St} {K : St → Option R} {r : R} (htl : TailOk HI roS nt.ro fr0 ops m) (hj : m ≤ j) (ho : ops[j]? = some o) (hpu : ¬ pureB o.op = true)
    (hfr : ∀ y, (∀ (k : Nat) o', m ≤ k → ops[k]? = some o' → o'.dst ≠ some y) → nthD .bad s.fr y = nthD .bad fr0 y)
    (h : runOps E ops n0 (o :: rest) bs s K = some r) {M0 : Nat → Prop} {b0 : Nat → Prop} {w0 w : World} {a : Act} (hm : Matches M0 b0 w0 nt s a w) (hS : Held HI roS wS w) {next : Act → World → Prop} {Q : Exit → Act → World → Prop} (hw : wpOp P ops.toArray Q j next a w) :
    wpOp P ops.toArray Q j (fun a' w' => Held HI roS wS w' ∧ next a' w') a w := by
  rcases htl with hno | htl
  · exact wpOp_mono (fun a' w' h' => ⟨fun id v b h1 => absurd h1 (hno id), h'⟩) hw
  rcases htl j o hj ho with hp | ⟨T, y, x, e, h1, h2⟩
  · exact absurd hp hpu
  have hoa : ops.toArray[j]? = some o := by simpa using ho
  unfold wpOp at hw ⊢
  simp only [hoa] at hw ⊢
  obtain ⟨yy, hy, hk⟩ := runOps_cons h
  rw [hy.wanted hm] at hw ⊢
  cases yy
  · simp only [Bool.false_eq_true, if_false] at hw ⊢
    exact ⟨hS, hw⟩
  · simp only [if_true] at hw ⊢
    have hE : effD E (evA s.fr) o.op = true := by rw [e]; rfl
    simp only [cond_true, stepK, hE] at hk
    rw [e] at hk
    obtain ⟨_, _, _, _, id', ix', path', hρ, hF⟩ := store_full (P := P) hty hk
    have hρ' : nthD .bad s.fr y = .ptr id' ix' path' := hρ
    rw [hfr y h1] at hρ'
    obtain ⟨v, h3, h4⟩ := h2 _ _ _ hρ'
    obtain ⟨q1, q2, q3, qn3, ν, hR, hg, hr⟩ := hm
    obtain ⟨w', hrun, hgr⟩ := hF M0 b0 ν w a o e hg (fun x _ => evA_rep hg.glM hr x)
    have hν := (hR _ v h3).2
    rw [hν] at hgr
    have hS' := hS.grown hgr fun id' v' b a1 a2 a3 => h4 id' v' b a1 a2 a3
    rcases hw with hw | hw
    · refine .inl ?_
      unfold Oper.wp at hw ⊢
      rw [hrun] at hw ⊢
      exact ⟨hS', hw⟩
    · exact .inr hw
theorem tail_any {E : Env X} (hty : ∀ T ti, E.ty T = some ti → TyOk P T ti) (hfn : FnsOk P E) {ops : List Oper} {m n0 : Nat} {H : Op → Bool} (hd : Draw H ops m) {HI : Nat → Prop} {roS : List Value} {wS : World} {fr0 : List AV} (htl : TailOk HI roS nt.ro fr0 ops m) (hHm : ∀ j o, m ≤ j → ops[j]? = some o → H o.op = true → pureB o.op = true) {K : St → Option R} {r : R} {M0 : Nat → Prop} {b0 : Nat → Prop} {w0 : World} {Q : Exit → Act → World → Prop} (hQp : ∀ c a w, ¬ Q (.panic c) a w)
    (hQ : ∀ s' a' w', K s' = some r → Matches M0 b0 w0 nt s' a' w' → Q .normal a' w') : ∀ (fuel k : Nat) (L : Array Bool) (s : St) (a : Act) (w : World), L.size = ops.length → ops.length - k ≤ fuel → m ≤ k → k ≤ ops.length → (∀ i, Sl L i = true ↔ i < k) →
      (∀ y, (∀ (k : Nat) o', m ≤ k → ops[k]? = some o' → o'.dst ≠ some y) → nthD .bad s.fr y = nthD .bad fr0 y) → SS HI roS wS b0 w0 w →
      runOps E ops n0 (ops.drop k) (((befores ops []).drop k).map some) s K = some r → Matches M0 b0 w0 nt s a w → wpAnyH P .any ops.toArray Q (SS HI roS wS b0 w0) fuel L a w := by
  intro fuel
  have hdone : ∀ (L : Array Bool) (s : St) (a : Act) (w : World), L.size = ops.length → (∀ i, Sl L i = true ↔ i < ops.length) → runOps E ops n0 (ops.drop ops.length) (((befores ops []).drop ops.length).map some) s K = some r → Matches M0 b0 w0 nt s a w →
      Region.ready .any ops.toArray L = [] ∧ Q .normal a w := by
    intro L s a w hsz hS h hm
    refine ⟨?_, hQ s a w (by simpa [runOps] using h) hm⟩
    cases hr : Region.ready .any ops.toArray L with
    | nil => rfl
    | cons j l =>
      obtain ⟨h1, h2, _⟩ := Sl_ready hsz (j := j) (by rw [hr]; simp)
      rw [(hS j).2 h1] at h2
      cases h2
  induction fuel with
  | zero =>
    intro k L s a w hsz hf hmk hk hS hfr hHd h hm
    have : k = ops.length := by omega
    subst this
    exact hdone L s a w hsz hS h hm
  | succ fuel ih =>
    intro k L s a w hsz hf hmk hk hS hfr hHd h hm
    rcases Nat.lt_or_ge k ops.length with hlt | hge
    · have hSk : Sl L k = false := by
        cases hx : Sl L k with
        | false => rfl
        | true => have := (hS k).1 hx; omega
      obtain ⟨ok, hok⟩ : ∃ o, ops[k]? = some o := ⟨ops[k], by simp [hlt]⟩
      have hbef : ∀ q, (nthD 0 (befores ops []) k).testBit q = true → Sl L q = true := fun q hq => (hS q).2 (before_lt hd (k + 1) k q (by omega) hq)
      have hdropk : ops.drop k = ok :: ops.drop (k + 1) := by
        have := List.drop_eq_getElem_cons hlt
        rw [this]
        have : ops[k] = ok := (List.getElem?_eq_some_iff.1 hok).2
        rw [this]
      have hbsk : (((befores ops []).drop k).map some).drop 1 = ((befores ops []).drop (k + 1)).map some := by
        rw [← List.map_drop, List.drop_drop]
      have hSn : ∀ i, Sl (L.setIfInBounds k true) i = true ↔ i < k + 1 := by
        intro i
        rw [Sl_set (by omega)]
        simp only [Bool.or_eq_true, beq_iff_eq, hS]
        omega
      by_cases hpu : pureB ok.op = true
      · rw [hdropk] at h
        obtain ⟨v, s', hst, hy, hk', hm'⟩ := pure_step (P := P) hpu h hm
        have hfr' : ∀ y, (∀ (k : Nat) o', m ≤ k → ops[k]? = some o' → o'.dst ≠ some y) → nthD .bad s'.fr y = nthD .bad fr0 y := fun y hy => (hst y (hy k ok hmk hok)).trans (hfr y hy)
        rw [hbsk] at hk'
        exact take_first hd hok (by rw [hpu]; rfl) (ready_of hsz hok hSk fun e he hb => (hS _).2 (hd.back k ok hok e he hb)) hbef hsz hQp hy.yieldsIf hHd (ih (k + 1) _ s' _ w (by simpa using hsz) (by omega) (by omega) (by omega) hSn hfr' hHd hk' hm')
      refine ⟨fun hr => absurd hr (ready_ne hd hsz hlt hSk), fun j hj => ?_⟩
      obtain ⟨h1, h2, o, ho, he⟩ := Sl_ready hsz hj
      have hjk : j = k := by
        rcases Nat.lt_trichotomy j k with h' | h' | h'
        · rw [(hS j).2 h'] at h2; cases h2
        · exact h'
        · rcases hd.part j k (by omega) h1 h' with hbit | ⟨p, hp, hpp⟩
          · have := ready_before (fun i hi q hq => (hS q).2 (by
              have := (hS i).1 hi
              have := before_lt hd (i + 1) i q (by omega) hq
              omega)) ho he hbit
            rw [hSk] at this
            cases this
          · rw [hok] at hp
            cases hp
            rcases Bool.or_eq_true _ _ ▸ hpp with hpp | hpp
            · exact absurd hpp hpu
            · exact absurd (hHm k ok hmk hok hpp) hpu
      subst hjk
      have hdrop : ops.drop j = o :: ops.drop (j + 1) := by
        have := List.drop_eq_getElem_cons h1
        rw [this]
        have : ops[j] = o := by
          have := List.getElem?_eq_some_iff.1 ho
          exact this.2
        rw [this]
      rw [hdrop] at h
      have hbs : (((befores ops []).drop j).map some).drop 1 = ((befores ops []).drop (j + 1)).map some := by
        rw [← List.map_drop, List.drop_drop]
      have := step_sound hty hfn (Q := Q) h hm (next := fun a' w' => (∀ b, ¬ b0 b → w'.heap[b]? = w0.heap[b]?) ∧ (SS HI roS wS b0 w0 w' → wpAnyH P .any ops.toArray Q (SS HI roS wS b0 w0) fuel (L.setIfInBounds j true) a' w')) fun s' a' w' hst h' hm' => ⟨hm'.2.1.block, fun hHd' => by
        rw [hbs] at h'
        refine ih (j + 1) _ s' a' w' (by simpa using hsz) (by omega) (by omega) (by omega) (fun i => ?_) (fun y hy => (hst y (hy j o hmk ho)).trans (hfr y hy)) hHd' h' hm'
        rw [Sl_set (by omega)]
        simp only [Bool.or_eq_true, beq_iff_eq, hS]
        omega⟩
      have hoa : ops.toArray[j]? = some o := by simpa using ho
      have hw : wpOp P ops.toArray Q j (fun a' w' => (∀ b, ¬ b0 b → w'.heap[b]? = w0.heap[b]?) ∧ (SS HI roS wS b0 w0 w' → wpAnyH P .any ops.toArray Q (SS HI roS wS b0 w0) fuel (L.setIfInBounds j true) a' w')) a w := by
        unfold wpOp
        simp only [hoa]
        exact this
      have hpo : ¬ pureB o.op = true := by
        rw [hok] at ho
        cases ho
        exact hpu
      exact wpOp_mono (fun a' w' h' => ⟨⟨h'.1, h'.2.1⟩, h'.2.2 ⟨h'.1, h'.2.1⟩⟩) (held_step hty htl hmk ho hpo hfr h hm hHd.1 hw)
    · have : k = ops.length := by omega
      subst this
      have := hdone L s a w hsz hS h hm
      exact wpAnyH_done this.1 this.2 _
theorem opTmps_mem {o : Op} {t : Tmp} (h : Operand.tmp t ∈ o.operands) : t ∈ opTmps o := by
  unfold opTmps
  rw [List.mem_filterMap]
  exact ⟨.tmp t, by simpa using h, rfl⟩
theorem evA_rep_at {M : Nat → Prop} {ν : Nat → Value} {dom : Nat → Prop} {obs : Obs} {w : World} {a : Act} {fr : List AV} (hgl : Gl M w) (x : Operand) (hr : ∀ t, x = .tmp t → RepA M ν dom obs w (nthD .bad fr t) (a.tmps.getD t undef)) : RepA M ν dom obs w (evA fr x) (a.eval x) := by
  cases x with
  | tmp t => exact hr t rfl
  | const v => exact cv_rep _ _ _ _ _ _
  | global g => exact glob_rep hgl _ _ _
  | func f =>
    simp only [evA]
    split
    · rename_i h; exact (fV_fn h).symm
    · trivial
theorem first_of {ops : List Oper} {t : Tmp} {o : Oper} {i j : Nat} (hd : defAt ops t = some o) (hj : j < i) (h1 : ops[j]? = some o) (h2 : ops[i]? = some o) : False := by
  unfold defAt at hd
  split at hd
  · rename_i o' hf
    split at hd
    · simp only [Option.some.injEq] at hd
      subst hd
      have hdst : (o'.dst == some t) = true := by
        have hm : o' ∈ ops.filter fun o => o.dst == some t := by rw [hf]; simp
        exact (List.mem_filter.1 hm).2
      have hlen : (ops.filter fun o => o.dst == some t).length = 1 := by rw [hf]; rfl
      have : 2 ≤ (ops.filter fun o => o.dst == some t).length := by
        rw [← List.countP_eq_length_filter]
        have hs : ops = ops.take i ++ ops.drop i := (List.take_append_drop i ops).symm
        rw [hs, List.countP_append]
        have c1 : 1 ≤ (ops.take i).countP fun o => o.dst == some t := by
          refine List.countP_pos_iff.2 ⟨o', ?_, hdst⟩
          refine List.mem_of_getElem? (i := j) ?_
          rw [List.getElem?_take, if_pos hj]; exact h1
        have c2 : 1 ≤ (ops.drop i).countP fun o => o.dst == some t := by
          refine List.countP_pos_iff.2 ⟨o', ?_, hdst⟩
          refine List.mem_of_getElem? (i := 0) ?_
          rw [List.getElem?_drop]; exact h2
        omega
      omega
    · cases hd
  · cases hd
theorem defAt_spec {ops : List Oper} {t : Tmp} {o : Oper} (h : defAt ops t = some o) : o.dst = some t ∧ o.guard = none ∧ ∃ i : Nat, ops[i]? = some o ∧ ∀ (k : Nat) o', ops[k]? = some o' → o'.dst = some t → o' = o := by
  unfold defAt at h
  split at h
  · rename_i o' hf
    split at h
    · rename_i hg
      simp only [Option.some.injEq] at h
      subst h
      have hm : o' ∈ ops.filter fun o => o.dst == some t := by rw [hf]; simp
      obtain ⟨h1, h2⟩ := List.mem_filter.1 hm
      obtain ⟨i, hi⟩ := List.getElem?_of_mem h1
      refine ⟨by simpa using h2, hg, i, hi, fun k o2 hk hd => ?_⟩
      have : o2 ∈ ops.filter fun o => o.dst == some t := List.mem_filter.2 ⟨List.mem_of_getElem? hk, by simp [hd]⟩
      rw [hf] at this
      simpa using this
    · cases h
  · cases h
theorem Way.of_none {all : List Oper} {s : St} {o : Oper} (hg : o.guard = none) : ¬ Way all s o false := by
  intro h
  generalize hb : false = b at h
  cases h with
  | free h => cases hb
  | met j want p d b h => rw [hg] at h; cases h
  | und j want p d h => rw [hg] at h; cases h
theorem put_other {a : Act} {d : Option Tmp} {v : Value} {y : Tmp} (h : d ≠ some y) : (a.put d v).tmps.getD y undef = a.tmps.getD y undef := by
  cases d with
  | none => rfl
  | some t =>
    have : t ≠ y := fun e => h (by rw [e])
    simp [Act.put, Array.getD_eq_getD_getElem?, this]
theorem put_this {a : Act} {v : Value} {t : Tmp} (h : t < a.tmps.size) : (a.put (some t) v).tmps.getD t undef = v := by
  simp [Act.put, Array.getD_eq_getD_getElem?, h]
theorem JJ.step {b0 : Nat → Prop} {fr0 : List AV} {u0 : Nat → Value} {ops : List Oper} {S : Nat → Bool} {a : Act} (h : JJ b0 fr0 u0 ops S a) {j : Nat} {o : Oper} (ho : ops[j]? = some o) (hsz : a.tmps.size = fr0.length) {v : Value}
    (hv : JV b0 fr0 u0 ops o v) : JJ b0 fr0 u0 ops (fun i => i == j || S i) (a.put o.dst v) := by
  have hoth : ∀ t i o', defAt ops t = some o' → ops[i]? = some o' → i ≠ j → o.dst ≠ some t := fun t i o' hd hi hij e' => by
    obtain ⟨_, _, _, _, hu⟩ := defAt_spec hd
    have e2 := hu j o ho e'
    subst e2
    rcases Nat.lt_or_ge i j with h' | h'
    · exact first_of hd h' hi ho
    · exact first_of hd (by omega) ho hi
  have hSi : ∀ i, (i == j || S i) = true → i ≠ j → S i = true := fun i hS hij => by
    rcases Bool.or_eq_true _ _ ▸ hS with h' | h'
    · exact absurd (by simpa using h') hij
    · exact h'
  refine ⟨fun y hy => ?_, fun t z i o' hd hi hM ht hS => ?_, fun t i o' hd hi hM ht hS => ?_⟩
  · rw [put_other (hy j o ho)]
    exact h.slot y hy
  · obtain ⟨h1, h2, _, _, hu⟩ := defAt_spec hd
    by_cases hij : i = j
    · subst hij
      rw [ho] at hi
      cases hi
      rw [h1, put_this (by rw [hsz]; exact ht)]
      exact hv.2 z hM h2
    · rw [put_other (hoth t i o' hd hi hij)]
      exact h.mv t z i o' hd hi hM ht (hSi i hS hij)
  · obtain ⟨h1, h2, _, _, hu⟩ := defAt_spec hd
    by_cases hij : i = j
    · subst hij
      rw [ho] at hi
      cases hi
      obtain ⟨ad, e, hb⟩ := hv.1 hM h2
      refine ⟨ad, ?_, hb⟩
      rw [h1, put_this (by rw [hsz]; exact ht), e]
    · rw [put_other (hoth t i o' hd hi hij)]
      exact h.addr t i o' hd hi hM ht (hSi i hS hij)
theorem put_self (l : List AV) (t : Tmp) (v : AV) : nthD .bad (put l (some t) v) t = v ∨ nthD .bad (put l (some t) v) t = .bad := by
  show nthD .bad (setN v l t) t = v ∨ nthD .bad (setN v l t) t = .bad
  induction l generalizing t with
  | nil => exact .inr rfl
  | cons x l ih => cases t with
    | zero => exact .inl rfl
    | succ t => exact ih t
theorem put_self_lt {l : List AV} {t : Tmp} {v : AV} (h : t < l.length) : nthD .bad (put l (some t) v) t = v := by
  show nthD .bad (setN v l t) t = v
  induction l generalizing t with
  | nil => simp at h
  | cons x l ih => cases t with
    | zero => rfl
    | succ t => exact ih (by simpa using h)
theorem Run.def_at {ops : List Oper} {m n0 : Nat} {st : Nat → St} (hrun : Run P ops m n0 st) {t : Tmp} {o : Oper} (hd : defAt ops t = some o) {i k : Nat} (hi : ops[i]? = some o) (hik : i < k) (hkm : k ≤ m) :
    ∃ b av nob, (befores ops [])[i]? = some b ∧ st (i + 1) = ⟨put (st i).fr o.dst av, (st i).obs ++ [nob]⟩ ∧ nthD .bad (st k).fr t = nthD .bad (put (st i).fr (some t) av) t ∧
      (∀ x id ix p, addrOf o.op = some x → evA (st i).fr x = .ptr id ix p → nob = none ∧ (∃ p', av = .ptr id ix p') ∧ AddrSound P (maskOf n0 b (st i)) (evA (st i).fr) o.op av) ∧ (∀ T, (o.op = .alloc T ∨ ∃ x, o.op = .box T x) → av = .ptr (st i).obs.length 0 [] ∧ ∃ ob, nob = some ob) ∧
      (∀ x u (l : List (Ty.D u)), addrOf o.op = some x → evA (st i).fr x = .val (.list u) l → ∃ u' y', av = .mem u' y') ∧ (∀ x, o.op = .move x → av = evA (st i).fr x) := by
  obtain ⟨o', b, ho', hb, av, nob, hst, hway⟩ := hrun.step i (by omega)
  rw [hi] at ho'
  cases ho'
  obtain ⟨hdst, hg, _, _, hu⟩ := defAt_spec hd
  rcases hway with ⟨_, _, h3, _, h5, h6, _, h8⟩ | ⟨hy, _⟩
  · refine ⟨b, av, nob, hb, hst, ?_, h5, h6, fun x u l e1 e2 => (h8 x u l e1 e2).2.2.1, fun x e => (h3 (by rw [e]; rfl)).2.2 x e⟩
    rw [hrun.fr (j := i + 1) k (by omega) hkm fun q o' hq1 _ ho' hd' => ?_, hst, hdst]
    have e := hu q o' ho' hd'
    exact first_of hd (by omega : i < q) hi (e ▸ ho')
  · exact absurd hy (Way.of_none hg)
theorem addrOf_mem {op : Op} {x : Operand} (h : addrOf op = some x) : x ∈ op.operands := by
  cases op <;> simp only [addrOf, Option.some.injEq, reduceCtorEq] at h
  all_goals (subst h; simp [Op.operands])
theorem MA.reach {ops : List Oper} {m n0 : Nat} {st : Nat → St} (hrun : Run P ops m n0 st) {o : Oper} (h : MA (st 0).fr ops o) {j : Nat} (hj : ops[j]? = some o) (hjm : j < m) : ∃ y z u, ∃ l : List (Ty.D u), addrOf o.op = some (.tmp y) ∧ (∀ (k : Nat) o', ops[k]? = some o' → o'.dst ≠ some z) ∧ nthD .bad (st 0).fr z = .val (.list u) l ∧ evA (st j).fr (.tmp y) = .val (.list u) l ∧
    (y = z ∨ y < (st 0).fr.length ∧ ∃ i om, defAt ops y = some om ∧ ops[i]? = some om ∧ MV (st 0).fr ops om z ∧ i < j) := by
  obtain ⟨y, z, e1, ⟨e2, u, l, e3⟩, hyz⟩ := h
  have hz : ∀ k, k ≤ m → nthD .bad (st k).fr z = .val (.list u) l := fun k hk => by
    rw [hrun.fr k (Nat.zero_le _) hk fun i o' _ _ ho' => e2 i o' ho']; exact e3
  rcases hyz with rfl | ⟨hyl, i, om, hd2, hi, hmo, hpos⟩
  · exact ⟨y, y, u, l, e1, e2, e3, hz j (by omega), .inl rfl⟩
  · have hij := hpos j hj
    obtain ⟨b, av2, nob2, _, hst, hfrt, _, _, _, h9⟩ := hrun.def_at hd2 hi hij (by omega)
    refine ⟨y, z, u, l, e1, e2, e3, ?_, .inr ⟨hyl, i, om, hd2, hi, ⟨hmo, e2, u, l, e3⟩, hij⟩⟩
    show nthD .bad (st j).fr y = _
    rw [hfrt, put_self_lt (by rw [(hrun.len i (by omega)).2]; exact hyl), h9 _ hmo]
    exact hz i (by omega)
theorem head_any {E : Env X} (hty : ∀ T ti, E.ty T = some ti → TyOk P T ti) (hfn : FnsOk P E) {ops : List Oper} {m n0 : Nat} {st : Nat → St} {H : Op → Bool} (hd : Draw H ops m) {HI : Nat → Prop} {wS : World} {M0 : Nat → Prop} {b0 : Nat → Prop} {w0 : World}
    (htl : ∀ (ν : Nat → Value) (w : World), Rows nt.ro ν n0 → Good M0 b0 ν (obF (st m).obs) w → TailOk HI nt.ro ((List.range (st m).obs.length).map ν) (st m).fr ops m) (hHm : ∀ j o, m ≤ j → ops[j]? = some o → H o.op = true → pureB o.op = true)
    (hH : ∀ k o, k < m → ops[k]? = some o → H o.op = true → pureB o.op = true ∨ (∃ x id ix p, addrOf o.op = some x ∧ evA (st k).fr x = .ptr id ix p) ∨ (∃ T t id ix path v, o.op = .load T (.tmp t) ∧ nthD .bad (st k).fr t = .ptr id ix path ∧ HI id ∧ nt.ro[id]? = some v) ∨
      MA (st 0).fr ops o ∨ ∃ T t i o2 u y, o.op = .load T (.tmp t) ∧ defAt ops t = some o2 ∧ ops[i]? = some o2 ∧ MA (st 0).fr ops o2 ∧ t < (st 0).fr.length ∧ i < k ∧ nthD .bad (st k).fr t = .mem u y)
    {u0 : Nat → Value} (hY : ∀ y u (l : List (Ty.D u)), (∀ (k : Nat) o', ops[k]? = some o' → o'.dst ≠ some y) → nthD .bad (st 0).fr y = .val (.list u) l → 0 < l.length → ∀ ad n c, u0 y = .slice (some ad) n c → ¬ b0 ad.block)
    (hrun : Run P ops m n0 st) {K : St → Option R} {r : R} {Q : Exit → Act → World → Prop} (hQp : ∀ c a w, ¬ Q (.panic c) a w)
    (hQ : ∀ s' a' w', K s' = some r → Matches M0 b0 w0 nt s' a' w' → Q .normal a' w') (hK : runOps E ops n0 (ops.drop m) (((befores ops []).drop m).map some) (st m) K = some r) : ∀ (fuel : Nat) (L : Array Bool) (a : Act) (w : World), L.size = ops.length → unl (Sl L) ops.length ≤ fuel →
      (∀ i, Sl L i = true → ∀ k, (nthD 0 (befores ops []) i).testBit k = true → Sl L k = true) → (∀ i, Sl L i = true → i < m) → DInv ops m n0 st M0 b0 w0 nt (Sl L) a w → SS HI nt.ro wS b0 w0 w → JJ b0 (st 0).fr u0 ops (Sl L) a → wpAnyH P .any ops.toArray Q (SS HI nt.ro wS b0 w0) fuel L a w := by
  intro fuel
  have hfull : ∀ (fuel : Nat) (L : Array Bool) (a : Act) (w : World), L.size = ops.length → unl (Sl L) ops.length ≤ fuel → (∀ i, Sl L i = true → i < m) → DInv ops m n0 st M0 b0 w0 nt (Sl L) a w → (∀ i, i < m → Sl L i = true) → SS HI nt.ro wS b0 w0 w → wpAnyH P .any ops.toArray Q (SS HI nt.ro wS b0 w0) fuel L a w := by
    intro fuel L a w hsz hf hlt hI hall hHd
    have hS : ∀ i, Sl L i = true ↔ i < m := fun i => ⟨hlt i, hall i⟩
    obtain ⟨p1, p2, p3, pn3, ν, hR, hg, hr⟩ := dinv_end hd hrun hS hI
    have hlm := (hrun.len m (Nat.le_refl _)).1
    have hRn : Rows nt.ro ν n0 := fun j v hj => by
      obtain ⟨_, _, _, _, ν', hR', _⟩ := hI
      exact ⟨(hR' j v hj).1, (hR j v hj).2⟩
    have hrT : ∀ id, id < (st m).obs.length → ((List.range (st m).obs.length).map ν)[id]? = some (ν id) := fun id hid => by simp [hid]
    have hRT : Rows ((List.range (st m).obs.length).map ν) ν (st m).obs.length := fun j v hj => by
      have hj' := (List.getElem?_eq_some_iff.1 hj).1
      simp only [List.length_map, List.length_range] at hj'
      rw [hrT j hj'] at hj
      exact ⟨hj', Option.some.inj hj⟩
    refine tail_any (nt := { nt with ro := (List.range (st m).obs.length).map ν }) hty hfn hd (htl ν w hRn hg) hHm hQp (fun s' a' w' h1 h2 => hQ s' a' w' h1 ?_) fuel m L (st m) a w hsz ?_ (Nat.le_refl _) hd.le hS (fun y hy => rfl) hHd hK ⟨p1, p2, p3, pn3, ν, hRT, hg, hr⟩
    · obtain ⟨c1, c2, c3, cn3, ν', hR', hg', hr'⟩ := h2
      refine ⟨c1, c2, c3, cn3, ν', fun j v hj => ?_, hg', hr'⟩
      obtain ⟨k1, k2⟩ := hR j v hj
      obtain ⟨k3, k4⟩ := hR' j (ν j) (hrT j k1)
      exact ⟨k3, k4.trans k2⟩
    have : ∀ n, n ≤ ops.length → n - m ≤ unl (Sl L) n := by
      intro n
      induction n with
      | zero => intro _; omega
      | succ n ih =>
        intro hn
        have := ih (by omega)
        simp only [unl]
        by_cases h : n < m
        · omega
        · have : Sl L n = false := by
            cases hx : Sl L n with
            | false => rfl
            | true => exact absurd (hlt n hx) h
          rw [this]
          simp only [Bool.false_eq_true, if_false]
          omega
    have := this ops.length (Nat.le_refl _)
    omega
  have hmaS : ∀ {j : Nat} {o : Oper} {L : Array Bool} {a : Act} {w : World} {ν : Nat → Value} {M : Nat → Prop} {dom : Nat → Prop} {obs : Obs} {av : AV} {nob : Option Ob}, j < m → ops[j]? = some o → MX (st 0).fr ops o →
      (∀ t, t ∈ readsOf ops o → RepA M ν dom obs w (nthD .bad (st j).fr t) (a.tmps.getD t undef)) → (pureB o.op = true → nob = none ∧ PureSound P (evA (st j).fr) o.op av ∧ ∀ x, o.op = .move x → av = evA (st j).fr x) →
      (∀ x u (l : List (Ty.D u)), addrOf o.op = some x → evA (st j).fr x = .val (.list u) l → nob = none ∧ 0 < l.length ∧ (∃ u' y', av = .mem u' y') ∧ AddrSoundL P (evA (st j).fr) o.op x av) → JJ b0 (st 0).fr u0 ops (Sl L) a → Gl M w → (∀ i, (nthD 0 (befores ops []) j).testBit i = true → Sl L i = true) →
      ∃ v, nob = none ∧ (∀ w', (execOp a.eval o).run P w' = .ok (.value v) w') ∧ RepA M ν dom obs w av v ∧ JV b0 (st 0).fr u0 ops o v := by
    intro j o L a w ν M dom obs av nob hjm ho hma hread hp hal hJ hgl hrdy
    rcases hma with hma | ⟨z, hz1, hz2, u, l, hz3⟩
    · obtain ⟨y, z, u, l, e1, e2, e3, hev, hyz⟩ := hma.reach hrun ho hjm
      have hyv : a.eval (.tmp y) = u0 z := by
        rcases hyz with rfl | ⟨hyl, i, om, hd2, hi, hmo, hij⟩
        · exact hJ.slot y e2
        · refine hJ.mv y z i om hd2 hi hmo hyl ?_
          rcases hd.reads i j om o y (by omega) hjm hi ho (defAt_spec hd2).1 (by unfold readsOf; exact List.mem_append_left _ (opTmps_mem (addrOf_mem e1))) with ⟨_, hb⟩ | ⟨hlt, _⟩
          · exact hrdy i hb
          · omega
      obtain ⟨hno, hlen, _, hS⟩ := hal _ u l e1 hev
      obtain ⟨ad, ad', n, c, h1, h2, h3, h4⟩ := hS M ν dom obs w a o rfl (fun x hx => evA_rep_at hgl x fun t e => by
        subst e
        exact hread t (by unfold readsOf; exact List.mem_append_left _ (opTmps_mem hx)))
      refine ⟨.pointer (some ad'), hno, h3, h4, fun _ _ => ⟨ad', rfl, ?_⟩, fun z' h _ => by rw [h.1] at e1; cases e1⟩
      rw [h2]
      refine hY z u l e2 e3 hlen ad n c ?_
      rw [← hyv]
      exact h1
    · obtain ⟨hno, hS, _⟩ := hp (by rw [hz1]; rfl)
      obtain ⟨v, hv, hrep⟩ := hS M ν dom obs w a o rfl (fun x hx => evA_rep_at hgl x fun t e => by
        subst e
        exact hread t (by unfold readsOf; exact List.mem_append_left _ (opTmps_mem hx)))
      refine ⟨v, hno, hv, hrep, fun ⟨y, _, e, _⟩ => (by rw [hz1] at e; cases e), fun z' h _ => ?_⟩
      have e := h.1
      rw [hz1] at e
      cases e
      have := hv w
      simp [execOp, hz1] at this
      rw [← this]
      exact hJ.slot z hz2
  induction fuel with
  | zero =>
    intro L a w hsz hf hcl hlt hI hHd hJ
    refine hfull 0 L a w hsz hf hlt hI (fun i hi => ?_) hHd
    have := hd.le
    exact unl_zero (n := ops.length) (by omega) i (by omega)
  | succ fuel ih =>
    intro L a w hsz hf hcl hlt hI hHd hJ
    by_cases hall : ∀ i, i < m → Sl L i = true
    · exact hfull _ L a w hsz hf hlt hI hall hHd
    · have hex : ∃ i, i < m ∧ Sl L i = false := by
        refine Classical.byContradiction fun hn => hall fun i hi => ?_
        cases hx : Sl L i with
        | true => rfl
        | false => exact absurd ⟨i, hi, hx⟩ hn
      obtain ⟨i0, hi0, hsi0⟩ := hex
      have hml := hd.le
      obtain ⟨k, hk1, hk2, hk3⟩ := exists_least ops.length i0 (by omega) hsi0
      have hkm : k < m := by omega
      obtain ⟨ok, hok⟩ : ∃ o, ops[k]? = some o := ⟨ops[k]'(by omega), by simp⟩
      have hrk : k ∈ Region.ready .any ops.toArray L := ready_of hsz hok hk2 fun e he hb => hk3 _ (hd.back k ok hok e he hb)
      by_cases hpu : (pureB ok.op || H ok.op) = true
      · -- a pure operation: it may be taken first
        obtain ⟨o', b, ho', hb, av, nob, hst, hway⟩ := hrun.step k hkm
        rw [hok] at ho'
        cases ho'
        have hrdy : ∀ i, (nthD 0 (befores ops []) k).testBit i = true → Sl L i = true := fun i hi => hk3 i (before_lt hd (k + 1) k i (by omega) hi)
        obtain ⟨g1, g2, g3, gn3, ν, hw, hg, g4⟩ := hI
        have hread : ∀ t, t ∈ readsOf ops ok → RepA (Msum M0 ν (obsS n0 (obF (st m).obs) (Sl L))) ν (domS n0 (Sl L)) (obsS n0 (obF (st m).obs) (Sl L)) w (nthD .bad (st k).fr t) (a.tmps.getD t undef) :=
          fun t ht => dinv_read hd hrun hkm hk2 hok hrdy (fun i _ hi q hq => hcl i hi q hq) g4 ht
        have hwant : ∀ y, Way ops (st k) ok y → Region.wanted ok (yielded ops.toArray a.tmps) = y := by
          intro y hy
          refine hy.wanted' fun g want p d hg1 hg2 hg3 hg4 => ?_
          have hr := hread d (by
            unfold readsOf
            simp [hg1, hg2, hg3])
          have hlt' : d < a.tmps.size := by rw [g3, ← (hrun.len k (by omega)).2]; exact nthD_lt rfl hg4
          exact ⟨a.tmps[d], by simp [hlt'], _, ν, _, _, w, by simpa [Array.getD_eq_getD_getElem?, hlt'] using hr⟩
        have hnone : obsS n0 (obF (st m).obs) (Sl L) (n0 + k) = none := by
          have : n0 + k - n0 = k := by omega
          unfold obsS
          rw [if_neg]
          simp [this, hk2]
        obtain ⟨hL, hG⟩ := hg.same hnone (Below.refl _ w)
        have hgo : ∀ v, YieldsIf P ops.toArray (SS HI nt.ro wS b0 w0) ok v a → nob = none → RepA (Msum M0 ν (obsS n0 (obF (st m).obs) (Sl L))) ν (domS n0 (Sl L)) (obsS n0 (obF (st m).obs) (Sl L)) w av v → JV b0 (st 0).fr u0 ops ok v → wpAnyH P .any ops.toArray Q (SS HI nt.ro wS b0 w0) (fuel + 1) L a w := by
          intro v hy hno hrep hJv
          subst hno
          refine take_first hd hok hpu hrk hrdy hsz hQp hy hHd ?_
          have hD := dinv_step hd hrun hkm hk2 hok hst g1 g2 g3 gn3 hw hg g4 hL hG (hrep.later hL (domS_not hk2))
          rw [← Sl_set (by omega)] at hD
          refine ih _ _ _ (by simpa using hsz) ?_ (closed_set hcl hok (by omega) fun e he hb => hk3 _ (hd.back k ok hok e he hb)) (fun i hi => ?_) hD ⟨hHd.1, hD.2.1.block⟩ (by rw [Sl_set (by omega)]; exact hJ.step hok g3 hJv)
          · rw [Sl_set (by omega)]
            have := unl_set (S := Sl L) (n := ops.length) (j := k) (by omega) hk2
            omega
          · rw [Sl_set (by omega)] at hi
            simp only [Bool.or_eq_true, beq_iff_eq] at hi
            rcases hi with hi | hi
            · omega
            · exact hlt i hi
        have hmask : ∀ id' ob, maskOf n0 b (st k) id' = some ob → obsS n0 (obF (st m).obs) (Sl L) id' = some ob := fun id' ob hob => by
          unfold maskOf at hob
          cases hb1 : decide (id' < n0) || b.testBit (id' - n0)
          · rw [hb1] at hob; cases hob
          · rw [hb1] at hob
            simp only [cond_true] at hob
            have hid := obF_lt (obs := (st k).obs) hob
            rw [(hrun.len k (by omega)).1] at hid
            have hSb : (decide (id' < n0) || Sl L (id' - n0)) = true := by
              simp only [Bool.or_eq_true, decide_eq_true_eq] at hb1 ⊢
              rcases hb1 with hb1 | hb1
              · exact .inl hb1
              · refine .inr (hrdy _ ?_)
                rw [nthD_eq, List.getD_eq_getElem?_getD, hb]
                exact hb1
            unfold obsS
            rw [if_pos hSb, hrun.obs m (by omega) (Nat.le_refl _) id' hid]
            exact hob
        rcases hway with ⟨hy, _, hp, hld, had, _, hlm, hal⟩ | ⟨hy, e1, e2⟩
        · by_cases hma : MX (st 0).fr ops ok
          · obtain ⟨v, hno, h1, h2, h3⟩ := hmaS hkm hok hma hread hp hal hJ hg.glM hrdy
            exact hgo v (yields_of (hwant _ hy) (fun _ => h1) (fun h => by cases h)).yieldsIf hno h2 h3
          have hJv : ∀ v : Value, JV b0 (st 0).fr u0 ops ok v := JV.not hma
          by_cases hpu' : pureB ok.op = true
          case neg =>
            have hHo : H ok.op = true := by
              rcases Bool.or_eq_true _ _ ▸ hpu with h | h
              · exact absurd h hpu'
              · exact h
            rcases hH k ok hkm hok hHo with h | ⟨x, id, ix, p, e, hfrk⟩ | ⟨T, t, id, ix, path, v0, e, hfrk, k3, k4⟩ | h | ⟨T, t, i2, o2, u2, y2, e, hd2, hi2, hm2, ht2, hik2, hfrk⟩
            · exact absurd h hpu'
            · obtain ⟨hno, _, hS⟩ := had x id ix p e hfrk
              obtain ⟨v, hv, hrep⟩ := hS _ ν (domS n0 (Sl L)) _ w a ok rfl hmask (fun x hx => evA_rep_at hg.glM x fun t e => by
                subst e
                exact hread t (by unfold readsOf; exact List.mem_append_left _ (opTmps_mem hx)))
              exact hgo v (yields_of (hwant _ hy) (fun _ => hv) (fun h => by cases h)).yieldsIf hno hrep (hJv v)
            · obtain ⟨hno, hS⟩ := hld T (.tmp t) id ix path e hfrk
              have hids := hw id v0 k4
              obtain ⟨v, g, n, c, q1, q2, q3⟩ := hS M0 b0 ν _ (domS n0 (Sl L)) w a ok e hg hmask (evA_rep_at hg.glM (.tmp t) fun t' e' => by
                    cases e'
                    exact hread t (by unfold readsOf; exact List.mem_append_left _ (opTmps_mem (by rw [e]; simp [Op.operands]))))
              have hgb : v0.ownBlock = some g := by rw [← hids.2, q1]; rfl
              refine hgo v (.inl ⟨hwant _ hy, fun w1 hw1 => q2 w1 ?_⟩) hno q3 (hJv v)
              rw [(hw1.1 id v0 g k3 k4 hgb).2, (hHd.1 id v0 g k3 k4 hgb).2]
            · exact absurd (.inl h) hma
            · obtain ⟨hno, hS⟩ := hlm T (.tmp t) u2 y2 e hfrk
              obtain ⟨aa, hea, hba⟩ := hJ.addr t i2 o2 hd2 hi2 hm2 ht2 (hk3 _ hik2)
              obtain ⟨v, q2, q3⟩ := hS _ ν (domS n0 (Sl L)) _ w a ok aa e (evA_rep_at hg.glM (.tmp t) fun t' e' => by
                    cases e'
                    exact hread t (by unfold readsOf; exact List.mem_append_left _ (opTmps_mem (by rw [e]; simp [Op.operands])))) hea
              refine hgo v (.inl ⟨hwant _ hy, fun w1 hw1 => q2 w1 ?_⟩) hno q3 (hJv v)
              rw [hw1.2 _ hba, hHd.2 _ hba]
          obtain ⟨hno, hS, _⟩ := hp hpu'
          obtain ⟨v, hv, hrep⟩ := hS _ ν (domS n0 (Sl L)) _ w a ok rfl (fun x hx => evA_rep_at hg.glM x fun t e => by
            subst e
            exact hread t (by unfold readsOf; exact List.mem_append_left _ (opTmps_mem hx)))
          exact hgo v (yields_of (hwant _ hy) (fun _ => hv) (fun h => by cases h)).yieldsIf hno hrep (hJv v)
        · subst e1
          exact hgo undef (yields_of (hwant _ hy) (fun h => by cases h) (fun _ => rfl)).yieldsIf e2 rfl ⟨fun _ hgn => absurd hy (Way.of_none hgn), fun _ _ hgn => absurd hy (Way.of_none hgn)⟩
      refine ⟨fun hr => absurd hr (ready_ne hd hsz (by omega) hsi0), fun j hj => ?_⟩
      obtain ⟨h1, h2, o, ho, he⟩ := Sl_ready hsz hj
      have hrdy : ∀ i, (nthD 0 (befores ops []) j).testBit i = true → Sl L i = true := fun i hi => ready_before hcl ho he hi
      have hjm : j < m := by
        rcases Nat.lt_or_ge j m with h' | h'
        · exact h'
        · rcases hd.part j k h' h1 (by omega) with hbit | ⟨p, hp, hpp⟩
          · have := hrdy k hbit
            rw [hk2] at this
            cases this
          · rw [hok] at hp
            cases hp
            exact absurd hpp hpu
      obtain ⟨o', b, ho', hb, av, nob, hst, hway⟩ := hrun.step j hjm
      rw [ho] at ho'
      cases ho'
      obtain ⟨g1, g2, g3, gn3, ν, hw, hg, g4⟩ := hI
      have hread : ∀ t, t ∈ readsOf ops o → RepA (Msum M0 ν (obsS n0 (obF (st m).obs) (Sl L))) ν (domS n0 (Sl L)) (obsS n0 (obF (st m).obs) (Sl L)) w (nthD .bad (st j).fr t) (a.tmps.getD t undef) :=
        fun t ht => dinv_read hd hrun hjm h2 ho hrdy (fun i _ hi k hk => hcl i hi k hk) g4 ht
      have hnext : ∀ (ν' : Nat → Value) (w' : World) (v : Value), Later M0 (n0 + j) ν ν' (obsS n0 (obF (st m).obs) (Sl L)) nob w w' → Good M0 b0 ν' (upd (obsS n0 (obF (st m).obs) (Sl L)) (n0 + j) nob) w' →
          RepA (Msum M0 ν' (upd (obsS n0 (obF (st m).obs) (Sl L)) (n0 + j) nob)) ν' (fun id => domS n0 (Sl L) id ∨ id = n0 + j) (upd (obsS n0 (obF (st m).obs) (Sl L)) (n0 + j) nob) w' av v → JV b0 (st 0).fr u0 ops o v → SS HI nt.ro wS b0 w0 w' ∧ wpAnyH P .any ops.toArray Q (SS HI nt.ro wS b0 w0) fuel (L.setIfInBounds j true) (a.put o.dst v) w' := by
        intro ν' w' v hL hG hR hJv
        have hD := dinv_step hd hrun hjm h2 ho hst g1 g2 g3 gn3 hw hg g4 hL hG hR
        rw [← Sl_set (by omega)] at hD
        have hHd' : SS HI nt.ro wS b0 w0 w' := ⟨hHd.1.below hL.below, hD.2.1.block⟩
        refine ⟨hHd', ih _ _ _ (by simpa using hsz) ?_ (closed_set hcl ho (by omega) he) (fun i hi => ?_) hD hHd' (by rw [Sl_set (by omega)]; exact hJ.step ho g3 hJv)⟩
        · rw [Sl_set (by omega)]
          have := unl_set (S := Sl L) h1 h2
          omega
        · rw [Sl_set (by omega)] at hi
          simp only [Bool.or_eq_true, beq_iff_eq] at hi
          rcases hi with hi | hi
          · omega
          · exact hlt i hi
      have hwant : ∀ y, Way ops (st j) o y → Region.wanted o (yielded ops.toArray a.tmps) = y := by
        intro y hy
        refine hy.wanted' fun g want p d hg1 hg2 hg3 hg4 => ?_
        have hr := hread d (by
          unfold readsOf
          simp [hg1, hg2, hg3])
        have hlt' : d < a.tmps.size := by rw [g3, ← (hrun.len j (by omega)).2]; exact nthD_lt rfl hg4
        exact ⟨a.tmps[d], by simp [hlt'], _, ν, _, _, w, by simpa [Array.getD_eq_getD_getElem?, hlt'] using hr⟩
      have hlen : (st j).obs.length = n0 + j := (hrun.len j (by omega)).1
      have hnone : obsS n0 (obF (st m).obs) (Sl L) (n0 + j) = none := by
        have : n0 + j - n0 = j := by omega
        unfold obsS
        rw [if_neg]
        simp [this, h2]
      have hoa : ops.toArray[j]? = some o := by simpa using ho
      rcases hway with ⟨hy, hS, hp, _, _, _, _, hal⟩ | ⟨hy, e1, e2⟩
      · by_cases hma : MX (st 0).fr ops o
        · obtain ⟨v, hno, k1, k2, k3⟩ := hmaS hjm ho hma hread hp hal hJ hg.glM hrdy
          subst hno
          obtain ⟨hL, hG⟩ := hg.same hnone (Below.refl _ w)
          exact YieldsIf.wpOp (S := fun _ => True) hoa (.inl ⟨hwant _ hy, fun w1 _ => k1 w1⟩) trivial (hnext ν w v hL hG (k2.later hL (domS_not h2)) k3)
        unfold wpOp
        simp only [hoa]
        rw [hwant _ hy]
        simp only [if_true]
        refine .inl ?_
        rw [hlen] at hS
        refine hS M0 b0 ν (obsS n0 (obF (st m).obs) (Sl L)) (domS n0 (Sl L)) w a o rfl hg (fun id ob hob => ?_) (fun id ob hob => ?_) (fun x hx => ?_) hnone (domS_not h2) _ _ fun v w' ν' hL hG hR => hnext ν' w' v hL hG hR (JV.not hma v)
        · unfold obsS at hob
          split at hob
          · assumption
          · cases hob
        · unfold maskOf at hob
          cases hb1 : decide (id < n0) || b.testBit (id - n0)
          · rw [hb1] at hob; cases hob
          · rw [hb1] at hob
            simp only [cond_true] at hob
            have hid := obF_lt (obs := (st j).obs) hob
            rw [hlen] at hid
            have hSb : (decide (id < n0) || Sl L (id - n0)) = true := by
              simp only [Bool.or_eq_true, decide_eq_true_eq] at hb1 ⊢
              rcases hb1 with hb1 | hb1
              · exact .inl hb1
              · refine .inr (hrdy _ ?_)
                rw [nthD_eq, List.getD_eq_getElem?_getD, hb]
                exact hb1
            unfold obsS
            rw [if_pos hSb, hrun.obs m (by omega) (Nat.le_refl _) id hid]
            exact hob
        · refine evA_rep_at hg.glM x fun t e => ?_
          subst e
          exact hread t (by unfold readsOf; exact List.mem_append_left _ (opTmps_mem hx))
      · unfold wpOp
        simp only [hoa]
        rw [hwant _ hy]
        simp only [Bool.false_eq_true, if_false]
        subst e1 e2
        obtain ⟨hL, hG⟩ := hg.same hnone (Below.refl _ w)
        exact hnext ν w undef hL hG rfl ⟨fun _ hgn => absurd hy (Way.of_none hgn), fun _ _ hgn => absurd hy (Way.of_none hgn)⟩
theorem agree_drew (M : Nat → Prop) (w : World) : Agree M w w.drew := Agree.of_below (M := M) (Below.refl _ w).drew
theorem Matches.drew {M0 : Nat → Prop} {b0 : Nat → Prop} {w0 : World} {s : St} {a : Act} {w : World} (h : Matches M0 b0 w0 nt s a w) : Matches M0 b0 w0 nt s a w.drew := by
  obtain ⟨h1, h2, h3, hn3, ν, hw, hg, hr⟩ := h
  refine ⟨h1, h2.drew, h3, hn3, ν, hw, ⟨hg.m0, hg.gl.next (Nat.le_refl _) (fun _ _ _ => rfl) (fun _ _ h => h), hg.hb, fun id ob ho => ?_, hg.ne⟩, fun t => ?_⟩
  · obtain ⟨q1, q2, xs, q3, q4⟩ := hg.ob id ob ho
    exact ⟨q1, q2, xs, q3, q4.next (agree_drew _ w) (fun b _ hb => hb)⟩
  · have := hr t
    generalize nthD .bad s.fr t = av at this ⊢
    cases av with
    | val t x => exact RepV.next (agree_drew _ w) (fun b _ hb => hb) this
    | tup l =>
      obtain ⟨vs, e, h1, h2⟩ := this
      exact ⟨vs, e, h1, fun i d hi => by
        obtain ⟨u, hu, hr⟩ := h2 i d hi
        exact ⟨u, hu, RepV.next (agree_drew _ w) (fun b _ hb => hb) hr⟩⟩
    | tupo id l =>
      obtain ⟨h0, vs, e, h1, h3, h2⟩ := this
      exact ⟨h0, vs, e, h1, h3, fun i d hi => by
        obtain ⟨u, hu, hr⟩ := h2 i d hi
        exact ⟨u, hu, RepV.next (agree_drew _ w) (fun b _ hb => hb) hr⟩⟩
    | mem t x =>
      obtain ⟨h0, a, cs, e, h1, h2, h3, h4⟩ := this
      exact ⟨h0, a, cs, e, h1, h2, Rep.next (agree_drew _ w) (fun b _ hb => hb) t x cs h3, h4⟩
    | _ => exact this
theorem slotId_spec {ops : List Oper} {s : St} {x : Operand} {id : Nat} (h : slotId ops s x = some id) : ∃ t ix path ob, x = .tmp t ∧ (∀ (k : Nat) o', ops[k]? = some o' → o'.dst ≠ some t) ∧ nthD .bad s.fr t = .ptr id ix path ∧ s.ob id = some ob := by
  unfold slotId at h
  split at h
  · rename_i t
    cases ha : (ops.all fun o => o.dst != some t) <;> rw [ha] at h
    · cases h
    · simp only [cond_true] at h
      split at h
      · rename_i id' ix path hp
        split at h
        · rename_i ob hob
          simp only [Option.some.injEq] at h
          subst h
          refine ⟨t, ix, path, ob, rfl, fun k o' hk e => ?_, hp, hob⟩
          have := List.all_eq_true.1 ha o' (List.mem_of_getElem? hk)
          simp [e] at this
        · cases h
      · cases h
  · cases h
theorem mem_takeWhile_of {α : Type} (l : List α) (p : α → Bool) (k : Nat) (x : α) (hk : l[k]? = some x) (h : ∀ (j : Nat) y, j ≤ k → l[j]? = some y → p y = true) : x ∈ l.takeWhile p := by
  induction l generalizing k with
  | nil => simp at hk
  | cons y l ih =>
    have hy : p y = true := h 0 y (Nat.zero_le _) rfl
    rw [List.takeWhile_cons, if_pos hy]
    cases k with
    | zero => simp at hk; subst hk; simp
    | succ k =>
      refine List.mem_cons_of_mem _ (ih k (by simpa using hk) fun j z hj hz => h (j + 1) z (by omega) (by simpa using hz))
theorem tailB_spec {E : Env X} {ops : List Oper} {s : St} {p : Nat → Bool} (h : tailB E ops s p = true) : ∀ (j : Nat) o, freeLen E ops ≤ j → ops[j]? = some o →
    pureB o.op = true ∨ ∃ T y z, o.op = .store T y z ∧ ((∃ id', slotId ops s y = some id' ∧ p id' = true) ∨ newB ops y = true) := by
  intro j o hj ho
  unfold tailB at h
  have hmem : o ∈ ops.drop (freeLen E ops) := by
    have : (ops.drop (freeLen E ops))[j - freeLen E ops]? = some o := by
      rw [List.getElem?_drop, Nat.add_sub_cancel' hj]; exact ho
    exact List.mem_of_getElem? this
  have := List.all_eq_true.1 h o hmem
  rcases Bool.or_eq_true _ _ ▸ this with h | h
  · exact .inl h
  · split at h
    · rename_i T y z he
      refine .inr ⟨T, y, z, he, ?_⟩
      split at h
      · rename_i id' hs'
        exact .inl ⟨id', hs', h⟩
      · exact .inr h
    · cases h
theorem heldId_spec {E : Env X} {ops : List Oper} {s : St} {op : Op} {id : Nat} (h : heldId E ops s op = some id) : ∃ T x, op = .load T x ∧ (slotId ops s x = some id ∨ baseId ops s x = some id) ∧ tailB E ops s (fun id' => id != id') = true := by
  unfold heldId at h
  split at h
  · rename_i T x
    split at h
    · rename_i id0 hs
      cases q : tailB E ops s (fun id' => id0 != id') <;> rw [q] at h
      · cases h
      · simp only [cond_true, Option.some.injEq] at h
        subst h
        refine ⟨T, x, rfl, ?_, q⟩
        split at hs
        · rename_i id1 h1
          simp only [Option.some.injEq] at hs
          subst hs
          exact .inl h1
        · exact .inr hs
    · cases h
  · cases h
theorem addrSlot_spec {ops : List Oper} {s : St} {op : Op} {id : Nat} (h : addrSlot ops s op = some id) : ∃ x, addrOf op = some x ∧ slotId ops s x = some id := by
  unfold addrSlot at h
  split at h
  · exact ⟨_, rfl, h⟩
  · exact ⟨_, rfl, h⟩
  · cases h
theorem baseId_spec {ops : List Oper} {s : St} {x : Operand} {id : Nat} (h : baseId ops s x = some id) : ∃ t o, x = .tmp t ∧ t < s.fr.length ∧ defAt ops t = some o ∧ addrSlot ops s o.op = some id ∧ ∀ (i k : Nat) p q T, ops[i]? = some p → p.dst = some t → ops[k]? = some q → q.op = .load T (.tmp t) → i < k := by
  unfold baseId at h
  split at h
  · rename_i t
    generalize hall : (Nat.blt t s.fr.length && (ops.takeWhile fun o => o.dst != some t).all fun o => (match o.op with
      | .load _ (.tmp u) => u != t
      | _ => true)) = q at h
    cases q
    · cases h
    · simp only [cond_true] at h
      obtain ⟨hlt, hall⟩ := (Bool.and_eq_true _ _).mp hall
      split at h
      · rename_i o hd
        refine ⟨t, o, rfl, by simpa [Nat.blt_eq] using hlt, hd, h, fun i k p q T hi hp hk hq => ?_⟩
        obtain ⟨_, _, i0, hi0, hu⟩ := defAt_spec hd
        have hpo := hu i p hi hp
        apply Classical.byContradiction
        intro hni
        have hmem : q ∈ ops.takeWhile fun o => o.dst != some t := by
          refine mem_takeWhile_of ops (fun o => o.dst != some t) k q hk fun j o' hj ho' => ?_
          have : ¬ o'.dst = some t := by
            intro hd'
            have e1 := hu j o' ho' hd'
            rcases Nat.lt_or_ge j i with h' | h'
            · exact first_of hd h' (e1 ▸ ho') (hpo ▸ hi)
            · have hji : j = k := by omega
              subst hji
              rw [hk] at ho'
              simp only [Option.some.injEq] at ho'
              rw [← e1, ← ho', hq] at h
              cases h
          simpa using this
        have := List.all_eq_true.1 hall q hmem
        simp [hq] at this
      · cases h
  · cases h
theorem listSlot_spec {ops : List Oper} {s : St} {x : Operand} (h : listSlot ops s x = true) : ∃ y u, ∃ l : List (Ty.D u), x = .tmp y ∧ (∀ (k : Nat) o', ops[k]? = some o' → o'.dst ≠ some y) ∧ nthD .bad s.fr y = .val (.list u) l := by
  unfold listSlot at h
  split at h
  · rename_i y
    obtain ⟨h1, h2⟩ := (Bool.and_eq_true _ _).mp h
    split at h2
    · rename_i u l e
      refine ⟨y, u, l, rfl, fun k o' hk he => ?_, e⟩
      have := List.all_eq_true.1 h1 o' (List.mem_of_getElem? hk)
      simp [he] at this
    · cases h2
  · cases h
theorem addrList_spec {ops : List Oper} {s : St} {o : Oper} (h : addrList ops s o.op = true) : MA s.fr ops o := by
  unfold addrList at h
  split at h
  · rename_i T x ix e
    unfold listBase at h
    split at h
    · rename_i y
      rcases (Bool.or_eq_true _ _).mp h with h | h
      · obtain ⟨y', u, l, e1, e2, e3⟩ := listSlot_spec h
        cases e1
        exact ⟨y, y, by rw [e]; rfl, ⟨e2, u, l, e3⟩, .inl rfl⟩
      · obtain ⟨h12, h3⟩ := (Bool.and_eq_true _ _).mp h
        obtain ⟨hlt, hall⟩ := (Bool.and_eq_true _ _).mp h12
        split at h3
        · rename_i om hd
          split at h3
          · rename_i x' hmo
            obtain ⟨z, u, l, e1, e2, e3⟩ := listSlot_spec h3
            subst e1
            obtain ⟨hdst, _, i, hi, hu⟩ := defAt_spec hd
            refine ⟨y, z, by rw [e]; rfl, ⟨e2, u, l, e3⟩, .inr ⟨by simpa [Nat.blt_eq] using hlt, i, om, hd, hi, hmo, fun k hk => ?_⟩⟩
            apply Classical.byContradiction
            intro hni
            have hmem : o ∈ ops.takeWhile fun o => o.dst != some y := by
              refine mem_takeWhile_of ops (fun o => o.dst != some y) k o hk fun j o' hj ho' => ?_
              have : ¬ o'.dst = some y := by
                intro hd'
                have e1 := hu j o' ho' hd'
                rcases Nat.lt_or_ge j i with h' | h'
                · exact first_of hd h' (e1 ▸ ho') hi
                · have hji : j = k := by omega
                  subst hji
                  rw [hk] at ho'
                  simp only [Option.some.injEq] at ho'
                  rw [← e1, ← ho', e] at hmo
                  cases hmo
              simpa using this
            have := List.all_eq_true.1 hall o hmem
            simp [e] at this
          · cases h3
        · cases h3
    · cases h
  · cases h
theorem loadList_spec {ops : List Oper} {s : St} {op : Op} (h : loadList ops s op = true) : ∃ T t o, op = .load T (.tmp t) ∧ t < s.fr.length ∧ defAt ops t = some o ∧ addrList ops s o.op = true ∧ ∀ (i k : Nat) p q T, ops[i]? = some p → p.dst = some t → ops[k]? = some q → q.op = .load T (.tmp t) → i < k := by
  unfold loadList at h
  split at h
  · rename_i T x
    unfold baseList at h
    split at h
    · rename_i t
      obtain ⟨h12, h3⟩ := (Bool.and_eq_true _ _).mp h
      obtain ⟨hlt, hall⟩ := (Bool.and_eq_true _ _).mp h12
      split at h3
      · rename_i o hd
        refine ⟨T, t, o, rfl, by simpa [Nat.blt_eq] using hlt, hd, h3, fun i k p q T hi hp hk hq => ?_⟩
        obtain ⟨_, _, i0, hi0, hu⟩ := defAt_spec hd
        have hpo := hu i p hi hp
        apply Classical.byContradiction
        intro hni
        have hmem : q ∈ ops.takeWhile fun o => o.dst != some t := by
          refine mem_takeWhile_of ops (fun o => o.dst != some t) k q hk fun j o' hj ho' => ?_
          have : ¬ o'.dst = some t := by
            intro hd'
            have e1 := hu j o' ho' hd'
            rcases Nat.lt_or_ge j i with h' | h'
            · exact first_of hd h' (e1 ▸ ho') (hpo ▸ hi)
            · have hji : j = k := by omega
              subst hji
              rw [hk] at ho'
              simp only [Option.some.injEq] at ho'
              rw [← e1, ← ho', hq] at h3
              cases h3
          simpa using this
        have := List.all_eq_true.1 hall q hmem
        simp [hq] at this
      · cases h3
    · cases h
  · cases h
theorem region_any0L {E : Env X} (hty : ∀ T ti, E.ty T = some ti → TyOk P T ti) (hfn : FnsOk P E) {ops : Array Oper} {s : St} {K : St → Option R} {r : R} (h : regionK E ops.toList true s K = some r) (hok : drawOk E ops.toList ⟨(freeze s (consOps E ops.toList)).fr, (freeze s (consOps E ops.toList)).obs⟩ = true)
    {M0 : Nat → Prop} {b0 : Nat → Prop} {w0 : World} {a : Act} {w : World} (hm : Matches M0 b0 w0 nt s a w) {Q : Exit → Act → World → Prop} (hQ : ∀ s' a' w', K s' = some r → Matches M0 b0 w0 nt s' a' w' → Q .normal a' w') : ∃ Q0 : Exit → Act → World → Prop, wpAny P .any ops Q0 ops.size (Array.replicate ops.size false) a { w with drawn := w.drawn + 1 } ∧ ∀ e a w, Q0 e a w → e = .normal ∧ Q .normal a w := by
  unfold regionK at h
  simp only [force_eq, cond_true] at h
  have hm1 := freeze_sound (consOps E ops.toList) s hm.drew
  generalize hs1 : freeze s (consOps E ops.toList) = s1 at h hm1 hok
  cases hdr : drawOk E ops.toList ⟨s1.fr, s1.obs⟩
  · rw [hdr] at hok; cases hok
  · rw [hdr] at h
    simp only [cond_true] at h
    let Q' : Exit → Act → World → Prop := fun e a w => e = .normal ∧ Q .normal a w
    refine ⟨Q', ?_, fun e a w h => h⟩
    obtain ⟨q1, q2, q3, qn3, ν, hR, hg, hr⟩ := hm1
    have hnt : ∀ id, id < s1.obs.length → ((List.range s1.obs.length).map ν)[id]? = some (ν id) := fun id hid => by simp [hid]
    have hR' : Rows ((List.range s1.obs.length).map ν) ν s1.obs.length := fun j v hj => by
      have hj' := (List.getElem?_eq_some_iff.1 hj).1
      simp only [List.length_map, List.length_range] at hj'
      rw [hnt j hj'] at hj
      exact ⟨hj', Option.some.inj hj⟩
    let b1 : Nat → Prop := fun b => b0 b ∧ (w.heap.size ≤ b ∨ ∃ id ob, obF s1.obs id = some ob ∧ (ν id).ownBlock = some b)
    let w1 : World := { w with drawn := w.drawn + 1 }
    have hsz1 : w1.heap.size = w.heap.size := rfl
    have hg1 : Good M0 b1 ν (obF s1.obs) w1 := ⟨fun b hb h => hg.m0 b hb h.1, hg.gl.next (Nat.le_refl _) (fun _ _ _ => rfl) (fun b _ h => h.elim .inl fun h => .inr h.1), fun b hb => ⟨hg.hb b hb, .inl hb⟩,
      fun id ob ho => by
        obtain ⟨o1, o2, xs, o3, o4⟩ := hg.ob id ob ho
        exact ⟨o1, o2, xs, ⟨o3.1, fun b hb => ⟨o3.2 b hb, .inr ⟨id, ob, ho, hb⟩⟩⟩, o4⟩, hg.ne⟩
    have hm2 : Matches M0 b1 w1 ({ nt with ro := (List.range s1.obs.length).map ν } : NT) s1 a w1 := ⟨q1, Beyond.refl _ _, q3, qn3, ν, hR', hg1, hr⟩
    have hQ' : ∀ s' a' w', K s' = some r → Matches M0 b1 w1 ({ nt with ro := (List.range s1.obs.length).map ν } : NT) s' a' w' → Q' .normal a' w' := fun s' a' w' h1 h2 => by
      obtain ⟨p1, p2, p3, pn3, ν', hRr, hg', hr'⟩ := h2
      have p2' : Beyond b0 w1 w' := ⟨p2.os, p2.tape, p2.output, p2.size, fun b hb => p2.block b fun h => hb h.1⟩
      have hg'' : Good M0 b0 ν' (obF s'.obs) w' := ⟨hg.m0, hg.gl.beyond p2' (fun _ h => h), fun b hb => hg.hb b (Nat.le_trans p2.size hb), fun id ob ho => by
        obtain ⟨o1, o2, xs, o3, o4⟩ := hg'.ob id ob ho
        exact ⟨o1, o2, xs, ⟨o3.1, fun b hb => (o3.2 b hb).1⟩, o4⟩, hg'.ne⟩
      refine ⟨rfl, hQ s' a' w' h1 ⟨p1, q2.trans p2', p3, pn3, ν', fun j v hj => ?_, hg'', hr'⟩⟩
      obtain ⟨k1, k2⟩ := hR j v hj
      obtain ⟨k3, k4⟩ := hRr j (ν j) (hnt j k1)
      exact ⟨k3, k4.trans k2⟩
    obtain ⟨st, h0, h1, h2⟩ := free_steps hty hfn ops.toList (befores ops.toList []) _ (by rw [befores_length]) h
    have hrun : Run P ops.toList (freeLen E ops.toList) s1.obs.length st := ⟨by rw [h0], h2⟩
    have hI := dinv_start hrun (M0 := M0) (b0 := b1) (w0 := w1) (nt := { nt with ro := (List.range s1.obs.length).map ν }) (a := a) (w := { w with drawn := w.drawn + 1 }) (by rw [h0]; exact hm2)
    have hSl : Sl (Array.replicate ops.size false) = fun _ => false := by
      funext i
      simp only [Sl, Array.getD_eq_getD_getElem?, Array.getElem?_replicate]
      split <;> rfl
    have hunl : unl (Sl (Array.replicate ops.size false)) ops.toList.length ≤ ops.size := by
      rw [hSl]
      have : ∀ n, unl (fun _ => false) n = n := by
        intro n
        induction n with
        | zero => rfl
        | succ n ih => simp [unl, ih]
      rw [this]
      simp
    have hfr0 : (st 0).fr = s1.fr := by rw [h0]
    have hY : ∀ y u (l : List (Ty.D u)), (∀ (k : Nat) o', ops.toList[k]? = some o' → o'.dst ≠ some y) → nthD .bad (st 0).fr y = .val (.list u) l → 0 < l.length → ∀ ad n c, (fun y => a.tmps.getD y undef) y = .slice (some ad) n c → ¬ b1 ad.block := by
      intro y u l _ h3 hl ad n c h4 hb
      rw [hfr0] at h3
      have h5 := hr y
      rw [h3] at h5
      obtain ⟨A, c', e, _, _, _, h6⟩ := repV_list h5
      obtain ⟨a', rfl, h7, h8, _⟩ := h6 hl
      have h9 := h4.symm.trans e
      simp only [Value.slice.injEq, Option.some.injEq] at h9
      obtain ⟨rfl, _, _⟩ := h9
      rcases hb.2 with hb | hb
      · exact absurd h7 (Nat.not_lt.2 hb)
      · exact h8 (.inr hb)
    have hJ0 : JJ b1 (st 0).fr (fun y => a.tmps.getD y undef) ops.toList (Sl (Array.replicate ops.size false)) a := ⟨fun _ _ => rfl, fun t z i o _ _ _ _ hS => by rw [hSl] at hS; (cases hS), fun t i o _ _ _ _ hS => by rw [hSl] at hS; (cases hS)⟩
    rcases Bool.or_eq_true _ _ ▸ hdr with hdr | hdr
    · have hd := drawC_spec hdr
      refine wpAny_of_held (S := SS (fun _ => False) ({ nt with ro := (List.range s1.obs.length).map ν } : NT).ro w1 b1 w1) _ _ _ _ ?_
      exact head_any (nt := { nt with ro := (List.range s1.obs.length).map ν }) hty hfn hd (fun _ _ _ _ => .inl fun _ h => h) (fun j o _ _ h => by cases h) (fun k o _ _ h => by cases h) hY hrun (Q := Q') (fun c a w h => by cases h.1) hQ' h1 ops.size (Array.replicate ops.size false) a w1 (by simp)
        hunl (by rw [hSl]; intro i hi; cases hi) (by rw [hSl]; intro i hi; cases hi) (by rw [hSl]; exact hI) ⟨fun _ _ _ h => h.elim, fun _ _ => rfl⟩ hJ0
    · have hd := drawC_spec hdr
      let HI : Nat → Prop := fun id => ∃ op, heldId E ops.toList ⟨s1.fr, s1.obs⟩ op = some id
      refine wpAny_of_held (S := SS HI ({ nt with ro := (List.range s1.obs.length).map ν } : NT).ro w1 b1 w1) _ _ _ _ ?_
      have hgood : ∀ id ob, s1.ob id = some ob → obF s1.obs id = some ob ∧ id < s1.obs.length := fun id ob hob => ⟨hob, obF_lt hob⟩
      have hHIs : ∀ id, HI id → ∃ ob, s1.ob id = some ob := by
        rintro id ⟨op, hid⟩
        obtain ⟨T, x, _, hx, _⟩ := heldId_spec hid
        rcases hx with hx | hx
        · obtain ⟨_, _, _, ob, _, _, _, e⟩ := slotId_spec hx
          exact ⟨ob, e⟩
        · obtain ⟨_, _, _, _, _, hx, _⟩ := baseId_spec hx
          obtain ⟨y, _, hy⟩ := addrSlot_spec hx
          obtain ⟨_, _, _, ob, _, _, _, e⟩ := slotId_spec hy
          exact ⟨ob, e⟩
      have hkeep : ∀ id, id < s1.obs.length → obF (st (freeLen E ops.toList)).obs id = obF s1.obs id := fun id hid => by
        have := hrun.obs (freeLen E ops.toList) (Nat.zero_le _) (Nat.le_refl _) id (by rw [Nat.add_zero]; exact hid)
        rw [this, h0]
      have hlen := hrun.len (freeLen E ops.toList) (Nat.le_refl _)
      refine head_any (nt := { nt with ro := (List.range s1.obs.length).map ν }) hty hfn hd (HI := HI) (fun ν' w' hR' hg' => ?_) (fun j o hj ho hh => ?_) (fun k o hk ho hh => ?_) hY hrun (Q := Q') (fun c a w h => by cases h.1) hQ' h1 ops.size (Array.replicate ops.size false) a w1 (by simp)
        hunl (by rw [hSl]; intro i hi; cases hi) (by rw [hSl]; intro i hi; cases hi) (by rw [hSl]; exact hI) ⟨fun id v b hid hv hb => ?_, fun _ _ => rfl⟩ hJ0
      · by_cases hex : ∃ id, HI id
        · refine .inr fun j o hj ho => ?_
          obtain ⟨id1, op1, hi1⟩ := hex
          obtain ⟨_, _, _, _, ht1⟩ := heldId_spec hi1
          have hrT : ∀ id, id < (st (freeLen E ops.toList)).obs.length → ((List.range (st (freeLen E ops.toList)).obs.length).map ν')[id]? = some (ν' id) := fun id hid => by simp [hid]
          have hsame : ∀ id2 v2, HI id2 → ((List.range s1.obs.length).map ν)[id2]? = some v2 → (∃ ob, obF (st (freeLen E ops.toList)).obs id2 = some ob) ∧ ν' id2 = v2 ∧ id2 < s1.obs.length := fun id2 v2 hi2 hv2 => by
            obtain ⟨ob2, e2⟩ := hHIs id2 hi2
            have hl2 := (hgood id2 ob2 e2).2
            exact ⟨⟨ob2, by rw [hkeep id2 hl2]; exact (hgood id2 ob2 e2).1⟩, (hR' id2 v2 hv2).2, hl2⟩
          rcases tailB_spec ht1 j o hj ho with hp | ⟨T, y, z, he, hy⟩
          · exact .inl hp
          · rcases hy with ⟨id', hs', _⟩ | hnew
            · obtain ⟨t, ix, path, ob, e1, e2, e3, e4⟩ := slotId_spec hs'
              subst e1
              refine .inr ⟨T, t, z, he, fun k o' _ hk => e2 k o' hk, fun id ix2 path2 hp2 => ?_⟩
              rw [hrun.fr (freeLen E ops.toList) (Nat.zero_le _) (Nat.le_refl _) fun i o _ _ ho => e2 i o ho, hfr0, e3] at hp2
              cases hp2
              have hl' := (hgood _ ob e4).2
              refine ⟨ν' id', hrT id' (by omega), fun id2 v2 b2 hi2 hv2 hb2 => ?_⟩
              obtain ⟨⟨ob2, q1⟩, q2, _⟩ := hsame id2 v2 hi2 hv2
              obtain ⟨op2, hi2⟩ := hi2
              obtain ⟨_, x2, _, hsx, ht2⟩ := heldId_spec hi2
              have hne : id2 ≠ id' := by
                rcases tailB_spec ht2 j o hj ho with hp | ⟨T2, y2, z2, he2, hy2⟩
                · rw [he] at hp; cases hp
                · rw [he] at he2
                  cases he2
                  rcases hy2 with ⟨id3, hs3, hne3⟩ | hnew2
                  · rw [hs'] at hs3
                    cases hs3
                    simpa using hne3
                  · exfalso
                    simp only [newB] at hnew2
                    split at hnew2
                    · rename_i o2 hd2
                      obtain ⟨q3, _, i3, q4, _⟩ := defAt_spec hd2
                      exact e2 i3 o2 q4 q3
                    · cases hnew2
              rw [← q2] at hb2
              exact hg'.ne id2 id' ob2 ob q1 (by rw [hkeep id' hl']; exact (hgood id' ob e4).1) hne b2 hb2
            · unfold newB at hnew
              split at hnew
              · rename_i t
                split at hnew
                · rename_i o2 hd2
                  obtain ⟨hdst, _, i, hi, hu⟩ := defAt_spec hd2
                  have hal : ∃ T, o2.op = .alloc T ∨ ∃ x, o2.op = .box T x := by
                    split at hnew
                    · rename_i T e; exact ⟨T, .inl e⟩
                    · rename_i T x e; exact ⟨T, .inr ⟨x, e⟩⟩
                    · cases hnew
                  obtain ⟨T2, hal⟩ := hal
                  have him : i < freeLen E ops.toList := by
                    apply Classical.byContradiction
                    intro hge
                    rcases tailB_spec ht1 i o2 (by omega) hi with hp | ⟨T3, y3, z3, he3, _⟩
                    · rcases hal with e | ⟨x, e⟩ <;> rw [e] at hp <;> cases hp
                    · rcases hal with e | ⟨x, e⟩ <;> rw [e] at he3 <;> cases he3
                  obtain ⟨b, av, nob, _, hst, hfrt, _, h6, _, _⟩ := hrun.def_at hd2 hi him (Nat.le_refl _)
                  obtain ⟨hav, obx, hnob⟩ := h6 T2 hal
                  have hli := (hrun.len i (by omega)).1
                  refine .inr ⟨T, t, z, he, fun k o' hk hk' hd' => ?_, fun id ix2 path2 hp2 => ?_⟩
                  · have e := hu k o' hk' hd'
                    exact first_of hd2 (by omega : i < k) hi (e ▸ hk')
                  · rw [hfrt] at hp2
                    have hid : id = s1.obs.length + i := by
                      rcases put_self (st i).fr t av with h | h
                      · rw [h, hav] at hp2
                        cases hp2
                        exact hli
                      · rw [h] at hp2; cases hp2
                    subst hid
                    refine ⟨ν' (s1.obs.length + i), hrT _ (by omega), fun id2 v2 b2 hi2 hv2 hb2 => ?_⟩
                    obtain ⟨⟨ob2, q1⟩, q2, q3⟩ := hsame id2 v2 hi2 hv2
                    have hlive : obF (st (freeLen E ops.toList)).obs (s1.obs.length + i) = some obx := by
                      have h7 := hrun.obs (j := i + 1) (freeLen E ops.toList) (by omega) (Nat.le_refl _) (s1.obs.length + i) (by omega)
                      rw [h7, hst, hnob]
                      unfold obF
                      rw [nthD_eq, List.getD_eq_getElem?_getD, List.getElem?_append_right (by omega), hli]
                      simp
                    rw [← q2] at hb2
                    exact hg'.ne id2 _ ob2 obx q1 hlive (by omega) b2 hb2
                · cases hnew
              · cases hnew
        · exact .inl fun id h => hex ⟨id, h⟩
      · have htb : ∃ p, tailB E ops.toList ⟨s1.fr, s1.obs⟩ p = true := by
          unfold heldB at hh
          rcases (Bool.or_eq_true _ _).mp hh with hh | hh
          · obtain ⟨id, hid⟩ := Option.isSome_iff_exists.1 hh
            obtain ⟨_, _, _, _, ht⟩ := heldId_spec hid
            exact ⟨_, ht⟩
          · exact ⟨_, ((Bool.and_eq_true _ _).mp hh).2⟩
        obtain ⟨p, htb⟩ := htb
        rcases tailB_spec htb j o hj ho with hp | ⟨T, y, z, he, _⟩
        · exact hp
        · unfold heldB at hh
          rw [he] at hh
          simp [heldId, addrSlot, addrList, loadList] at hh
      · unfold heldB at hh
        rcases (Bool.or_eq_true _ _).mp hh with hh | hh
        · obtain ⟨id, hid⟩ := Option.isSome_iff_exists.1 hh
          have hHId : HI id := ⟨o.op, hid⟩
          obtain ⟨obx, hobx⟩ := hHIs id hHId
          have hv := hnt id (hgood id obx hobx).2
          obtain ⟨T, x, e, hx, _⟩ := heldId_spec hid
          refine .inr (.inr (.inl ?_))
          rcases hx with hx | hx
          · obtain ⟨t, ix, path, ob, e1, e2, e3, e4⟩ := slotId_spec hx
            subst e1
            refine ⟨T, t, id, ix, path, ν id, e, ?_, hHId, hv⟩
            rw [hrun.fr k (Nat.zero_le _) (by omega) fun i o _ _ ho => e2 i o ho, hfr0]
            exact e3
          · obtain ⟨t, o2, e1, htl, hd2, hxa, hpos⟩ := baseId_spec hx
            subst e1
            obtain ⟨hdst, _, i, hi, _⟩ := defAt_spec hd2
            have hik := hpos i k o2 o T hi hdst ho e
            obtain ⟨y, hy1, hy2⟩ := addrSlot_spec hxa
            obtain ⟨ty, ix, path, ob, e1, e2, e3, e4⟩ := slotId_spec hy2
            subst e1
            obtain ⟨b, av, nob, _, hst, hfrt, h5, _, _, _⟩ := hrun.def_at hd2 hi hik (by omega)
            have hev : evA (st i).fr (.tmp ty) = .ptr id ix path := by
              show nthD .bad (st i).fr ty = _
              rw [hrun.fr i (Nat.zero_le _) (by omega) fun i o _ _ ho => e2 i o ho, hfr0]
              exact e3
            obtain ⟨_, ⟨p', hav⟩, _⟩ := h5 _ _ _ _ hy1 hev
            refine ⟨T, t, id, ix, p', ν id, e, ?_, hHId, hv⟩
            rw [hfrt, put_self_lt (by rw [(hrun.len i (by omega)).2, hfr0]; exact htl), hav]
        · rcases (Bool.or_eq_true _ _).mp ((Bool.and_eq_true _ _).mp hh).1 with hh | hll
          · rcases (Bool.or_eq_true _ _).mp hh with hh | hal
            · obtain ⟨id, hid⟩ := Option.isSome_iff_exists.1 hh
              obtain ⟨y, hy1, hy2⟩ := addrSlot_spec hid
              obtain ⟨ty, ix, path, ob, e1, e2, e3, e4⟩ := slotId_spec hy2
              subst e1
              refine .inr (.inl ⟨_, id, ix, path, hy1, ?_⟩)
              show nthD .bad (st k).fr ty = _
              rw [hrun.fr k (Nat.zero_le _) (by omega) fun i o _ _ ho => e2 i o ho, hfr0]
              exact e3
            · refine .inr (.inr (.inr (.inl ?_)))
              rw [hfr0]
              exact addrList_spec hal
          · obtain ⟨T, t, o2, e1, htl, hd2, hal, hpos⟩ := loadList_spec hll
            obtain ⟨hdst, _, i, hi, _⟩ := defAt_spec hd2
            have hik := hpos i k o2 o T hi hdst ho e1
            have hma : MA (st 0).fr ops.toList o2 := by rw [hfr0]; exact addrList_spec hal
            obtain ⟨b, av, nob, _, hst, hfrt, _, _, h7, _⟩ := hrun.def_at hd2 hi hik (by omega)
            obtain ⟨y, z, u, l, f1, _, _, f4, _⟩ := hma.reach hrun hi (by omega)
            obtain ⟨u', y', hav⟩ := h7 _ u l f1 f4
            refine .inr (.inr (.inr (.inr ⟨T, t, i, o2, u', y', e1, hd2, hi, hma, ?_, hik, ?_⟩)))
            · rw [hfr0]; exact htl
            · rw [hfrt, put_self_lt (by rw [(hrun.len i (by omega)).2, hfr0]; exact htl), hav]
      · obtain ⟨ob2, e5⟩ := hHIs id hid
        rw [hnt id (hgood id ob2 e5).2] at hv
        cases hv
        refine ⟨?_, rfl⟩
        obtain ⟨_, hsz, xs, how, _⟩ := hg.ob id ob2 (hgood id ob2 e5).1
        exact (how.1.lt b hb).2
end Go.FK
