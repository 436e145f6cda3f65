import Derived.Test.YtnjpocbcfkfphaaDoorF2
import Derived.Scope
import Derived.Lib.Bytealg
import Derived.Laws.Externs

/- A statement whose order is open, and that stores: every order ends as the text's. -/
namespace Go.FK
open Go.RowKit
variable {P : Program} {ρ : Operand → AV} {X R : Type} {nt : NT}
def TL : Option Ob → Option Ob → Prop
  | none, none => True
  | some a, some b => a.t = b.t ∧ a.l.length = b.l.length
  | _, _ => False
theorem TL.refl (o : Option Ob) : TL o o := by cases o <;> simp [TL]
theorem TL.symm {o p : Option Ob} (h : TL o p) : TL p o := by
  cases o <;> cases p <;> simp only [TL] at h ⊢
  exact ⟨h.1.symm, h.2.symm⟩
theorem TL.trans {o p q : Option Ob} (h : TL o p) (g : TL p q) : TL o q := by
  cases o <;> cases p <;> cases q <;> simp only [TL] at h g ⊢
  exact ⟨h.1.trans g.1, h.2.trans g.2⟩
theorem TL.some {o : Ob} {p : Option Ob} (h : TL (some o) p) : ∃ q, p = some q ∧ o.t = q.t ∧ o.l.length = q.l.length := by
  cases p with
  | none => exact h.elim
  | some q => exact ⟨q, rfl, h⟩
theorem RepA.tl {M : Nat → Prop} {ν : Nat → Value} {dom : Nat → Prop} {obs obs' : Obs} {w : World} {av : AV} {v : Value} (h : ∀ id, dom id → TL (obs id) (obs' id)) (hr : RepA M ν dom obs w av v) : RepA M ν dom obs' w av v := by
  cases av with
  | ptr id ix path =>
    refine ⟨hr.1, fun ob ho => ?_⟩
    have := (h id hr.1).symm
    rw [ho] at this
    obtain ⟨q, e, e1, e2⟩ := this.some
    obtain ⟨q1, g, n, c, q2, q3⟩ := hr.2 q e
    exact ⟨by rw [e2]; exact q1, g, n, c, q2, by rw [e1]; exact q3⟩
  | win id lo n =>
    refine ⟨hr.1, fun ob ho => ?_⟩
    have := (h id hr.1).symm
    rw [ho] at this
    obtain ⟨q, e, e1, e2⟩ := this.some
    obtain ⟨q0, q1, g, nn, c, cap, q2, q3, q4⟩ := hr.2 q e
    exact ⟨q0, by rw [e2]; exact q1, g, nn, c, cap, q2, by rw [e1]; exact q3, q4⟩
  | clo f id =>
    refine ⟨hr.1, fun ob ho => ?_⟩
    have := (h id hr.1).symm
    rw [ho] at this
    obtain ⟨q, e, e1, e2⟩ := this.some
    obtain ⟨q1, g, n, c, q2, q3⟩ := hr.2 q e
    exact ⟨by rw [e2]; exact q1, g, n, c, q2, q3⟩
  | _ => exact hr
theorem changed_gen {M0 : Nat → Prop} {b0 : Nat → Prop} {ν : Nat → Value} {obs : Obs} {dom : Nat → Prop} {w w' : World} (hg : Good M0 b0 ν obs w) {id : Nat} {ob : Ob} (hobF : obs id = some ob) (l' : List ob.t.D) (hll : l'.length = ob.l.length)
    {ys : List Value} (h2 : ownsO b0 w' ob.e ob.t (ν id) ob.l.length ys) (h3 : w.grownBy w' (ν id).ownBlock) (hrow : RepRow (Msum M0 ν obs) w' ob.t l' ys) :
    Beyond b0 w w' ∧ Good M0 b0 ν (upd obs id (some ⟨ob.e, ob.t, l'⟩)) w' ∧ ∀ av v, RepA (Msum M0 ν obs) ν dom obs w av v → RepA (Msum M0 ν (upd obs id (some ⟨ob.e, ob.t, l'⟩))) ν dom (upd obs id (some ⟨ob.e, ob.t, l'⟩)) w' av v := by
  obtain ⟨hok, hsz, xs, how, _⟩ := hg.ob id ob hobF
  have hM : Msum M0 ν (upd obs id (some ⟨ob.e, ob.t, l'⟩)) = Msum M0 ν obs := by
    funext b
    apply propext
    constructor
    · rintro (hm | ⟨j, oj, hj, hb⟩)
      · exact .inl hm
      · unfold upd at hj
        split at hj
        · rename_i e; subst e; exact .inr ⟨j, ob, hobF, hb⟩
        · exact .inr ⟨j, oj, hj, hb⟩
    · rintro (hm | ⟨j, oj, hj, hb⟩)
      · exact .inl hm
      · by_cases e : j = id
        · subst e; exact .inr ⟨j, ⟨ob.e, ob.t, l'⟩, by simp [upd], hb⟩
        · exact .inr ⟨j, oj, by simp [upd, e, hj], hb⟩
  have hA := Agree.of_grown (M := Msum M0 ν obs) h3 (fun g e => .inr ⟨id, ob, hobF, e⟩)
  refine ⟨Beyond.of_grown h3 hg.hb how.2, ⟨hg.m0, hg.gl.grown h3 how.2, fun b hle => hg.hb b (Nat.le_trans h3.size hle), fun j oj hj => ?_, fun i j oi oj hi hj hij b hbi => ?_⟩, fun av v' hr' => ?_⟩
  · rw [hM]
    by_cases e : j = id
    · subst e
      simp only [upd, if_true, Option.some.injEq] at hj
      subst hj
      exact ⟨hok, hsz, ys, by rw [hll]; exact h2, hrow⟩
    · simp only [upd, if_neg e] at hj
      obtain ⟨q1, q2, zs, q3, q4⟩ := hg.ob j oj hj
      refine ⟨q1, q2, zs, ⟨q3.1.kept h3 ?_, q3.2⟩, q4.next hA (fun _ _ h => h)⟩
      cases hb : (ν j).ownBlock with
      | none => exact .inl rfl
      | some b => exact .inr fun e2 => hg.ne id j ob oj hobF hj (fun h => e h.symm) b e2.symm hb
  · have hi' : ∃ oi', obs i = some oi' := by
      unfold upd at hi; split at hi
      · rename_i e; subst e; exact ⟨ob, hobF⟩
      · exact ⟨oi, hi⟩
    have hj' : ∃ oj', obs j = some oj' := by
      unfold upd at hj; split at hj
      · rename_i e; subst e; exact ⟨ob, hobF⟩
      · exact ⟨oj, hj⟩
    obtain ⟨oi', hi'⟩ := hi'
    obtain ⟨oj', hj'⟩ := hj'
    exact hg.ne i j oi' oj' hi' hj' hij b hbi
  · rw [hM]
    cases av with
    | bad => trivial
    | und => exact hr'
    | nil => exact hr'
    | val t z => exact RepV.next hA (fun _ _ h => h) hr'
    | tup l =>
      obtain ⟨vs, e, q1, q2⟩ := hr'
      exact ⟨vs, e, q1, fun i d hi => by
        obtain ⟨u, hu, hr⟩ := q2 i d hi
        exact ⟨u, hu, RepV.next hA (fun _ _ h => h) hr⟩⟩
    | tupo j l =>
      obtain ⟨q0, vs, e, q1, q3, q2⟩ := hr'
      exact ⟨q0, vs, e, q1, q3, fun i d hi => by
        obtain ⟨u, hu, hr⟩ := q2 i d hi
        exact ⟨u, hu, RepV.next hA (fun _ _ h => h) hr⟩⟩
    | own j => exact ⟨hr'.1, hr'.2⟩
    | ptr j jx p =>
      refine ⟨hr'.1, fun oj hj => ?_⟩
      by_cases e : j = id
      · subst e
        simp only [upd, if_true, Option.some.injEq] at hj
        subst hj
        obtain ⟨q1, g', n', c', q2, q3⟩ := hr'.2 ob hobF
        exact ⟨by rw [hll]; exact q1, g', n', c', q2, q3⟩
      · simp only [upd, if_neg e] at hj
        exact hr'.2 oj hj
    | win j lo m =>
      refine ⟨hr'.1, fun oj hj => ?_⟩
      by_cases e : j = id
      · subst e
        simp only [upd, if_true, Option.some.injEq] at hj
        subst hj
        obtain ⟨q0, q1, q2⟩ := hr'.2 ob hobF
        exact ⟨q0, by rw [hll]; exact q1, q2⟩
      · simp only [upd, if_neg e] at hj
        exact hr'.2 oj hj
    | mem t z =>
      obtain ⟨q0, a', cs', e, q1, q2, q3, q4⟩ := hr'
      exact ⟨q0, a', cs', e, Nat.lt_of_lt_of_le q1 h3.size, q2, Rep.next hA (fun _ _ h => h) t z cs' q3, fun j u hj => hA.cell (by rw [block_add]; exact q2) (q4 j u hj)⟩
    | fn f => exact hr'
    | tab k l =>
      obtain ⟨a', e, q1, q2, q3⟩ := hr'
      exact ⟨a', e, Nat.lt_of_lt_of_le q1 h3.size, q2, fun j u hj => hA.cell (by rw [block_add]; exact q2) (q3 j u hj)⟩
    | clo f j =>
      refine ⟨hr'.1, fun oj hj => ?_⟩
      by_cases e : j = id
      · subst e
        simp only [upd, if_true, Option.some.injEq] at hj
        subst hj
        obtain ⟨q1, g', n', c', q2, q3⟩ := hr'.2 ob hobF
        exact ⟨by rw [hll]; exact q1, g', n', c', q2, q3⟩
      · simp only [upd, if_neg e] at hj
        exact hr'.2 oj hj
theorem written_gen {M0 : Nat → Prop} {b0 : Nat → Prop} {ν : Nat → Value} {obs : Obs} {dom : Nat → Prop} {w w' : World} (hg : Good M0 b0 ν obs w) {id : Nat} {ob : Ob} (hobF : obs id = some ob) (l' : List ob.t.D) (hll : l'.length = ob.l.length)
    {ys : List Value} (h2 : ownsO b0 w' ob.e ob.t (ν id) ob.l.length ys) (h3 : w.grownBy w' (ν id).ownBlock) (hrow : RepRow (Msum M0 ν obs) w ob.t l' ys) :
    Beyond b0 w w' ∧ Good M0 b0 ν (upd obs id (some ⟨ob.e, ob.t, l'⟩)) w' ∧ ∀ av v, RepA (Msum M0 ν obs) ν dom obs w av v → RepA (Msum M0 ν (upd obs id (some ⟨ob.e, ob.t, l'⟩))) ν dom (upd obs id (some ⟨ob.e, ob.t, l'⟩)) w' av v :=
  changed_gen hg hobF l' hll h2 h3 (hrow.next (Agree.of_grown (M := Msum M0 ν obs) h3 (fun _ e => .inr ⟨id, ob, hobF, e⟩)) (fun _ _ h => h))
def StoreG (P : Program) (ρ : Operand → AV) (op : Op) (id : Nat) (ob ob' : Ob) : Prop :=
  ∀ (M0 : Nat → Prop) (b0 : Nat → Prop) (ν : Nat → Value) (obs : Obs) (dom : Nat → Prop) (w : World) (a : Act) (o : Oper), o.op = op → Good M0 b0 ν obs w → obs id = some ob →
    (∀ x ∈ op.operands, RepA (Msum M0 ν obs) ν dom obs w (ρ x) (a.eval x)) → ∃ w', (execOp a.eval o).run P w = .ok .skip w' ∧ Beyond b0 w w' ∧ Good M0 b0 ν (upd obs id (some ob')) w' ∧
      ∀ av v, RepA (Msum M0 ν obs) ν dom obs w av v → RepA (Msum M0 ν (upd obs id (some ob'))) ν dom (upd obs id (some ob')) w' av v
theorem store_gen {E : Env X} (hty : ∀ T ti, E.ty T = some ti → TyOk P T ti) {cons : Bool} {obs : List (Option Ob)} {T : TypeId} {ad x : Operand} {K : AV → List (Option Ob) → Option R} {r : R}
    (h : effK E cons obs ρ (.store T ad x) K = some r) : ∃ obs' id ix path ob ob', K .bad obs' = some r ∧ ρ ad = .ptr id ix path ∧ obF obs id = some ob ∧ obF obs' = upd (obF obs) id (some ob') ∧ obs'.length = obs.length + 1 ∧ TL (some ob) (some ob') ∧
      StoreG P ρ (.store T ad x) id ob ob' := by
  simp only [effK] at h
  split at h
  · rename_i id ix path hρ
    split at h
    · rename_i ob hob
      split at h
      · rename_i d hd
        split at h
        · rename_i hT
          split at h
          · rename_i v hv
            split at h
            · rename_i y hy
              obtain ⟨ti, hti, htd⟩ := isTy_ok hT
              have htok := hty T ti hti
              have hobF : obF obs id = some ob := hob
              have hlt := obF_lt hobF
              have key : StoreG P ρ (.store T ad x) id ob ⟨ob.e, ob.t, setN y ob.l ix⟩ := fun M0 b0 ν obs2 dom w a o ho hg hobF hr => by
               have hx := hr ad (by simp [Op.operands])
               rw [hρ] at hx
               obtain ⟨hix, g, n, c, hν, hav⟩ := hx.2 ob hobF
               obtain ⟨hoko, hsz, xs, howo, hrow⟩ := hg.ob id ob hobF
               have hok := ok_getP hoko hd (by rw [← htd]; exact htok.1)
               have how := howo.row hok
               have hel := hrow.2 ix _ (nthD_some hix)
               obtain ⟨k1, k2⟩ := Rep.setP path v ob.t _ _ y hok hel hy
               have hvx := toDyn_rep hv (hr x (by simp [Op.operands]))
               obtain ⟨_, cs, hcs, hve⟩ := hvx
               have hlen := Rep.len _ _ _ hcs
               have hb := mul_le ix ob.l.length ob.t.sz hix
               have hxl := hrow.1
               have hvt : v.1 = ti.t := by
                 have hgp : ∀ (p : List Nat) (t : Ty) (z : t.D) (d : Dyn), getP p t z = some d → ∀ (v : Dyn) (y : t.D), setP p v t z = some y → v.1 = d.1 := by
                   intro p
                   induction p with
                   | nil =>
                     intro t z d hd v y hy
                     simp only [getP, Option.some.injEq] at hd
                     simp only [setP] at hy
                     obtain ⟨e, _⟩ := castD_eq hy
                     rw [e, ← hd]
                   | cons j p ih =>
                     intro t z d hd v y hy
                     cases t with
                     | st t =>
                       simp only [getP] at hd
                       simp only [setP] at hy
                       split at hd
                       · rename_i f hf
                         have aux : ∀ (t : Ty) (z y : t.D) (j : Nat) (f : Dyn), fieldG t z j = some f → setF t z j (setP p v) = some y → ∃ q, setP p v f.1 f.2 = some q := by
                           intro t
                           induction t with
                           | pair a b iha ihb =>
                             intro z y j f hf hy
                             cases j with
                             | zero =>
                               simp only [fieldG, Option.some.injEq] at hf
                               subst hf
                               simp only [setF] at hy
                               split at hy
                               · exact ⟨_, by assumption⟩
                               · cases hy
                             | succ j =>
                               simp only [fieldG] at hf
                               simp only [setF] at hy
                               split at hy
                               · exact ihb z.2 _ j f hf (by assumption)
                               · cases hy
                           | unit => intro z y j f hf; simp [fieldG] at hf
                           | _ =>
                             intro z y j f hf hy
                             cases j with
                             | zero =>
                               simp only [fieldG, Option.some.injEq] at hf
                               subst hf
                               simp only [setF] at hy
                               exact ⟨_, hy⟩
                             | succ j => simp [fieldG] at hf
                         obtain ⟨q, hq⟩ := aux t z y j f hf hy
                         exact ih f.1 f.2 d hd v q hq
                       · cases hd
                     | _ => simp [getP] at hd
                 rw [hgp path ob.t _ d hd v y hy, htd]
               obtain ⟨vt, vx⟩ := v
               simp only at hvt
               subst hvt
               simp only at hcs hve k1 k2 hlen
               obtain ⟨w', h1, h2, h3⟩ := own_splice (P := P) how (g := g) (by rw [hν]; rfl) (o := ix * ob.t.sz + offP path ob.t) (vs := cs) (by omega) (Rep.one _ _ _ hcs)
               have hrun : (execOp a.eval o).run P w = .ok .skip w' := by
                 have := run_storeVar htok hcs hve ⟨g, ix * ob.t.sz + offP path ob.t, none⟩ w
                 rw [h1] at this
                 simp [execOp, ho, Instr.storeAt, hav, Instr.sureAddr, this]
               exact ⟨w', hrun, written_gen hg hobF (setN y ob.l ix) (length_setN _ _ _) (h2.o hok) (by rw [hν]; exact h3) (by
                have := hrow.set hix (y := y) (o := offP path ob.t) (vs := cs) (by omega) (k2 cs hcs)
                rw [setN_eq]
                exact this)⟩
              have hob' : obF (setN (some ⟨ob.e, ob.t, setN y ob.l ix⟩) obs id ++ [none]) = upd (obF obs) id (some ⟨ob.e, ob.t, setN y ob.l ix⟩) := by rw [obF_snoc_none, obF_set _ _ _ hlt]
              exact ⟨_, id, ix, path, ob, _, h, hρ, hobF, hob', by simp [length_setN], ⟨rfl, (length_setN _ _ _).symm⟩, key⟩
            · cases h
          · cases h
        · cases h
      · cases h
    · cases h
  · cases h
theorem addrB_full {E : Env X} (hty : ∀ T ti, E.ty T = some ti → TyOk P T ti) {nid : Nat} {obsm : Obs} {cons : Bool} {op : Op} {x : Operand} {id ix : Nat} {path : List Nat} {K : AV → Option Ob → Option R} {r : R} (hop : baseOf op = some x) (hρ : ρ x = .ptr id ix path)
    (h : freeK E nid cons obsm ρ op K = some r) : ∃ av, K av none = some r ∧ AddrSound P obsm ρ op av := by
  by_cases hn : ∃ y, op = .nilCheck y
  · obtain ⟨y, rfl⟩ := hn
    simp only [baseOf, Option.some.injEq] at hop
    subst hop
    simp only [freeK, hρ] at h
    split at h
    · rename_i ob hob
      refine ⟨_, h, fun M ν dom obs w a o ho hs hr => ?_⟩
      have hx := hr y (by simp [Op.operands])
      rw [hρ] at hx
      obtain ⟨_, g, n, c, _, hv⟩ := hx.2 ob (hs id ob hob)
      exact ⟨a.eval y, fun w' => by simp [execOp, ho, hv], hx⟩
    · cases h
  · have hop' : addrOf op = some x := by
      cases op <;> simp only [baseOf, Option.some.injEq] at hop <;> first | (cases hop; done) | (subst hop; first | rfl | exact absurd ⟨_, rfl⟩ hn)
    obtain ⟨p', hK, hS⟩ := addr_full (P := P) hty hop' hρ h
    exact ⟨_, hK, hS⟩
def StepS (P : Program) (all : List Oper) (n0 : Nat) (o : Oper) (b : Nat) (s s' : St) (tc : Option (Nat × Bool)) : Prop :=
  (Way all s o false ∧ tc = none ∧ s' = ⟨put s.fr o.dst .und, s.obs ++ [none]⟩) ∨
  (Way all s o true ∧ ((∃ av, tc = none ∧ s' = ⟨put s.fr o.dst av, s.obs ++ [none]⟩ ∧ AddrSound P (maskB n0 b s) (evA s.fr) o.op av) ∨
    (∃ av nob, tc = none ∧ s' = ⟨put s.fr o.dst av, s.obs ++ [nob]⟩ ∧ FreeSound P s.obs.length (fun _ => none) (evA s.fr) o.op av nob) ∨
    (∃ av nob id, tc = some (id, false) ∧ s' = ⟨put s.fr o.dst av, s.obs ++ [nob]⟩ ∧ FreeSound P s.obs.length (fun i => bif i == id then maskB n0 b s i else none) (evA s.fr) o.op av nob) ∨
    (∃ id ob ob' l', tc = some (id, true) ∧ s' = ⟨put s.fr o.dst .bad, l'⟩ ∧ obF s.obs id = some ob ∧ obF l' = upd (obF s.obs) id (some ob') ∧ l'.length = s.obs.length + 1 ∧ TL (some ob) (some ob') ∧ StoreG P (evA s.fr) o.op id ob ob')))
theorem runOpsS_cons {E : Env X} {all : List Oper} {n0 j b : Nat} {o : Oper} {rest : List Oper} {bs : List Nat} {tch : List (Nat × Nat × Bool)} {s : St} {K : St → Option R} {r : R} (h : runOpsS E all n0 j (o :: rest) (b :: bs) tch s K = some r) :
    ∃ y, Way all s o y ∧ (bif y then
      (bif clashB b n0 tch (touchL (evA s.fr) o.op) then
        bif storeB o.op then effK E (match o.dst with | some d => hasT d (consOps E rest) | none => false) s.obs (evA s.fr) o.op fun v obs =>
          runOpsS E all n0 (j + 1) rest bs (touchAdd j (touchL (evA s.fr) o.op) tch) ⟨put s.fr o.dst v, obs⟩ K
        else bif isEff E o.op then none else freeK E s.obs.length (match o.dst with | some d => hasT d (consOps E rest) | none => false) (maskS n0 b s o.op) (evA s.fr) o.op fun v ob =>
          runOpsS E all n0 (j + 1) rest bs (touchAdd j (touchL (evA s.fr) o.op) tch) ⟨put s.fr o.dst v, s.obs ++ [ob]⟩ K
      else none)
      else runOpsS E all n0 (j + 1) rest bs tch ⟨put s.fr o.dst .und, s.obs ++ [none]⟩ K) = some r := by
  unfold runOpsS at h
  simp only [force_eq] at h
  split at h
  · rename_i hg
    exact ⟨true, .free hg, h⟩
  · rename_i jj want hg
    split at h
    · cases h
    · rename_i p hp
      split at h
      · cases h
      · rename_i d hd
        split at h
        · rename_i bb hv
          refine ⟨_, .met jj want p d bb hg hp hd hv, ?_⟩
          cases bb <;> cases want <;> simp only [cond_true, cond_false, setN_self hv] at h <;> exact h
        · rename_i hv
          exact ⟨false, .und jj want p d hg hp hd hv, h⟩
        · cases h
def NoClash (n0 b : Nat) (tch : List (Nat × Nat × Bool)) (t : Option (Nat × Bool)) : Prop :=
  ∀ id wr, t = some (id, wr) → (decide (id < n0) || b.testBit (id - n0)) = true ∧ ∀ q ∈ tch, q.2.1 = id → (wr = true ∨ q.2.2 = true) → b.testBit q.1 = true
theorem clashB_spec {n0 b : Nat} {tch : List (Nat × Nat × Bool)} {t : Option (Nat × Bool)} (h : clashB b n0 tch t = true) : NoClash n0 b tch t := by
  intro id wr ht
  subst ht
  simp only [clashB, Bool.and_eq_true, List.all_eq_true] at h
  refine ⟨h.1, fun q hq hid hw => ?_⟩
  have := h.2 q hq
  simp only [Bool.or_eq_true, bne_iff_ne, ne_eq, Bool.and_eq_true, Bool.not_eq_true'] at this
  rcases this with (h1 | ⟨h1, h2⟩) | h1
  · exact absurd hid h1
  · rcases hw with hw | hw
    · rw [hw] at h1; cases h1
    · rw [hw] at h2; cases h2
  · exact h1
theorem stepS_of {E : Env X} (hty : ∀ T ti, E.ty T = some ti → TyOk P T ti) (hfn : FnsOk P E) {all : List Oper} {n0 j b : Nat} {o : Oper} {rest : List Oper} {bs : List Nat} {tch : List (Nat × Nat × Bool)} {s : St} {K : St → Option R} {r : R} (h : runOpsS E all n0 j (o :: rest) (b :: bs) tch s K = some r) :
    ∃ s' tc, StepS P all n0 o b s s' tc ∧ NoClash n0 b tch tc ∧ runOpsS E all n0 (j + 1) rest bs (touchAdd j tc tch) s' K = some r := by
  obtain ⟨y, hy, hk⟩ := runOpsS_cons h
  cases y
  · simp only [cond_false] at hk
    exact ⟨_, none, .inl ⟨hy, rfl, rfl⟩, (by intro _ _ h; cases h), hk⟩
  · simp only [cond_true] at hk
    cases hc : clashB b n0 tch (touchL (evA s.fr) o.op)
    · rw [hc] at hk; cases hk
    · rw [hc] at hk
      simp only [cond_true] at hk
      have hnc := clashB_spec hc
      cases hst : storeB o.op
      · rw [hst] at hk
        simp only [cond_false] at hk
        cases hE : isEff E o.op
        · rw [hE] at hk
          simp only [cond_false] at hk
          cases hty2 : typeB (evA s.fr) o.op
          · have hm : maskS n0 b s o.op = match touchL (evA s.fr) o.op with
                | some (id, _) => fun i => bif i == id then maskB n0 b s i else none
                | none => fun _ => none := by unfold maskS; rw [hty2]; rfl
            rw [hm] at hk
            cases ht : touchL (evA s.fr) o.op with
            | none =>
              rw [ht] at hk hnc
              obtain ⟨av, nob, hK, hS⟩ := free_sound hty hfn.2.2.2 hfn.1 hfn.2.1 hk
              exact ⟨_, none, .inr ⟨hy, .inr (.inl ⟨av, nob, rfl, rfl, hS⟩)⟩, hnc, hK⟩
            | some q =>
              obtain ⟨id, wr⟩ := q
              have hwr : wr = false := by
                cases ho : o.op <;> rw [ho] at ht hst <;> simp only [touchL] at ht <;> first | (cases ht; done) | skip
                · split at ht
                  · cases ht; rfl
                  · cases ht
                · cases hst
              subst hwr
              rw [ht] at hk hnc
              obtain ⟨av, nob, hK, hS⟩ := free_sound hty hfn.2.2.2 hfn.1 hfn.2.1 hk
              exact ⟨_, some (id, false), .inr ⟨hy, .inr (.inr (.inl ⟨av, nob, id, rfl, rfl, hS⟩))⟩, hnc, hK⟩
          · have hm : maskS n0 b s o.op = maskB n0 b s := by unfold maskS; rw [hty2]; rfl
            rw [hm] at hk
            obtain ⟨x, id, ix, path, h1, h2⟩ : ∃ x id ix path, baseOf o.op = some x ∧ evA s.fr x = .ptr id ix path := by
              unfold typeB at hty2
              split at hty2
              · rename_i x hx
                unfold isPtr at hty2
                split at hty2
                · rename_i id ix path e; exact ⟨x, id, ix, path, hx, e⟩
                · cases hty2
              · cases hty2
            have ht : touchL (evA s.fr) o.op = none := by
              cases ho : o.op <;> rw [ho] at h1 <;> simp only [baseOf] at h1 <;> first | (cases h1; done) | rfl
            rw [ht] at hk
            obtain ⟨av, hK, hS⟩ := addrB_full hty h1 h2 hk
            exact ⟨_, none, .inr ⟨hy, .inl ⟨av, rfl, rfl, hS⟩⟩, (by intro _ _ h; cases h), hK⟩
        · rw [hE] at hk; cases hk
      · rw [hst] at hk
        simp only [cond_true] at hk
        obtain ⟨T, ad, x, ho⟩ : ∃ T ad x, o.op = .store T ad x := by
          cases ho : o.op <;> rw [ho] at hst <;> first | (cases hst; done) | exact ⟨_, _, _, rfl⟩
        rw [ho] at hk hnc
        obtain ⟨l', id, ix, path, ob, ob', hK, h1, h2, h3, h4, h5, h6⟩ := store_gen (P := P) hty hk
        have ht : touchL (evA s.fr) (.store T ad x) = some (id, true) := by simp only [touchL, h1]
        rw [ht] at hK hnc
        exact ⟨_, some (id, true), .inr ⟨hy, .inr (.inr (.inr ⟨id, ob, ob', l', rfl, rfl, h2, h3, h4, h5, by rw [ho]; exact h6⟩))⟩, hnc, hK⟩
theorem mem_touchAdd {j : Nat} {t : Option (Nat × Bool)} {l : List (Nat × Nat × Bool)} {q : Nat × Nat × Bool} : q ∈ touchAdd j t l ↔ (q.1 = j ∧ t = some q.2) ∨ q ∈ l := by
  cases t with
  | none => simp [touchAdd]
  | some p =>
    simp only [touchAdd, List.mem_cons, Option.some.injEq]
    constructor
    · rintro (h | h)
      · subst h; exact .inl ⟨rfl, rfl⟩
      · exact .inr h
    · rintro (⟨h1, h2⟩ | h)
      · left; obtain ⟨a, c⟩ := q; simp only at h1 h2; rw [h1, h2]
      · exact .inr h
theorem runOpsS_steps {E : Env X} (hty : ∀ T ti, E.ty T = some ti → TyOk P T ti) (hfn : FnsOk P E) {all : List Oper} {n0 : Nat} {K : St → Option R} {r : R} : ∀ (l : List Oper) (bl : List Nat) (j0 : Nat) (tch : List (Nat × Nat × Bool)) (s : St),
    runOpsS E all n0 j0 l bl tch s K = some r → ∃ (st : Nat → St) (tc : Nat → Option (Nat × Bool)), st 0 = s ∧ K (st l.length) = some r ∧
      ∀ j, j < l.length → ∃ o b, l[j]? = some o ∧ bl[j]? = some b ∧ StepS P all n0 o b (st j) (st (j + 1)) (tc j) ∧ NoClash n0 b tch (tc j) ∧
        ∀ id wr, tc j = some (id, wr) → ∀ k wr', k < j → tc k = some (id, wr') → (wr = true ∨ wr' = true) → b.testBit (j0 + k) = true
  | [], bl, j0, tch, s, h => ⟨fun _ => s, fun _ => none, rfl, by simpa [runOpsS] using h, fun j hj => by simp at hj⟩
  | o :: rest, [], j0, tch, s, h => by simp [runOpsS] at h
  | o :: rest, b :: bl, j0, tch, s, h => by
    obtain ⟨s', t, h1, h2, h3⟩ := stepS_of hty hfn h
    obtain ⟨st, tc, g0, g1, g2⟩ := runOpsS_steps hty hfn rest bl (j0 + 1) _ s' h3
    refine ⟨fun | 0 => s | j + 1 => st j, fun | 0 => t | j + 1 => tc j, rfl, g1, fun j hj => ?_⟩
    cases j with
    | zero => exact ⟨o, b, rfl, rfl, by simpa [g0] using h1, h2, fun _ _ _ k _ hk => by omega⟩
    | succ j =>
      obtain ⟨p, c, h4, h5, h6, h7, h8⟩ := g2 j (by simpa using hj)
      refine ⟨p, c, by simpa using h4, by simpa using h5, h6, fun id wr e => ?_, fun id wr e k wr' hk hk' hw => ?_⟩
      · obtain ⟨q1, q2⟩ := h7 id wr e
        exact ⟨q1, fun q hq => q2 q (mem_touchAdd.2 (.inr hq))⟩
      · cases k with
        | zero =>
          have := (h7 id wr e).2 (j0, id, wr') (mem_touchAdd.2 (.inl ⟨rfl, hk'⟩)) rfl hw
          simpa using this
        | succ k =>
          have := h8 id wr e k wr' (by omega) hk' hw
          rwa [show j0 + (k + 1) = j0 + 1 + k by omega]
structure RunS (P : Program) (ops : List Oper) (n n0 : Nat) (st : Nat → St) (tc : Nat → Option (Nat × Bool)) : Prop where
  start : (st 0).obs.length = n0
  step : ∀ j, j < n → ∃ o b, ops[j]? = some o ∧ (befores ops [])[j]? = some b ∧ StepS P ops n0 o b (st j) (st (j + 1)) (tc j) ∧ (∀ id wr, tc j = some (id, wr) → (decide (id < n0) || b.testBit (id - n0)) = true) ∧
    ∀ id wr, tc j = some (id, wr) → ∀ k wr', k < j → tc k = some (id, wr') → (wr = true ∨ wr' = true) → b.testBit k = true
theorem StepS.len {all : List Oper} {n0 : Nat} {o : Oper} {b : Nat} {s s' : St} {t : Option (Nat × Bool)} (h : StepS P all n0 o b s s' t) : s'.obs.length = s.obs.length + 1 ∧ s'.fr.length = s.fr.length := by
  rcases h with ⟨_, _, e⟩ | ⟨_, ⟨av, _, e, _⟩ | ⟨av, nob, _, e, _⟩ | ⟨av, nob, id, _, e, _⟩ | ⟨id, ob, ob', l', _, e, _, _, hl, _⟩⟩ <;> rw [e] <;> simp [length_put]
  exact hl
theorem StepS.put {all : List Oper} {n0 : Nat} {o : Oper} {b : Nat} {s s' : St} {t : Option (Nat × Bool)} (h : StepS P all n0 o b s s' t) : ∃ av, s'.fr = FK.put s.fr o.dst av := by
  rcases h with ⟨_, _, e⟩ | ⟨_, ⟨av, _, e, _⟩ | ⟨av, nob, _, e, _⟩ | ⟨av, nob, id, _, e, _⟩ | ⟨id, ob, ob', l', _, e, _, _, hl, _⟩⟩ <;> rw [e] <;> exact ⟨_, rfl⟩
theorem StepS.obs {all : List Oper} {n0 : Nat} {o : Oper} {b : Nat} {s s' : St} {t : Option (Nat × Bool)} (h : StepS P all n0 o b s s' t) {id : Nat} (hid : id < s.obs.length) :
    (t ≠ some (id, true) → obF s'.obs id = obF s.obs id) ∧ TL (obF s.obs id) (obF s'.obs id) := by
  have hsn : ∀ (x : Option Ob), obF (s.obs ++ [x]) id = obF s.obs id := fun x => by
    rw [obF_snoc]; simp only [upd]; rw [if_neg (by omega)]
  rcases h with ⟨_, _, e⟩ | ⟨_, ⟨av, _, e, _⟩ | ⟨av, nob, _, e, _⟩ | ⟨av, nob, id', _, e, _⟩ | ⟨id', ob, ob', l', ht, e, h1, h2, hl, h3, _⟩⟩ <;> rw [e]
  · exact ⟨fun _ => hsn _, by simp only [hsn]; exact TL.refl _⟩
  · exact ⟨fun _ => hsn _, by simp only [hsn]; exact TL.refl _⟩
  · exact ⟨fun _ => hsn _, by simp only [hsn]; exact TL.refl _⟩
  · exact ⟨fun _ => hsn _, by simp only [hsn]; exact TL.refl _⟩
  · simp only
    rw [h2]
    by_cases he : id = id'
    · subst he
      refine ⟨fun hne => absurd ht hne, ?_⟩
      simp only [upd, if_true]
      rw [h1]; exact h3
    · simp only [upd, if_neg he]
      exact ⟨fun _ => trivial, TL.refl _⟩
theorem RunS.len {ops : List Oper} {n n0 : Nat} {st : Nat → St} {tc : Nat → Option (Nat × Bool)} (h : RunS P ops n n0 st tc) : ∀ j, j ≤ n → (st j).obs.length = n0 + j ∧ (st j).fr.length = (st 0).fr.length
  | 0, _ => ⟨by simpa using h.start, rfl⟩
  | j + 1, hj => by
    obtain ⟨o, b, _, _, hs, _⟩ := h.step j (by omega)
    have h1 := h.len j (by omega)
    have h2 := hs.len
    exact ⟨by omega, by omega⟩
theorem RunS.fr {ops : List Oper} {n n0 : Nat} {st : Nat → St} {tc : Nat → Option (Nat × Bool)} (h : RunS P ops n n0 st tc) {t : Tmp} {j : Nat} : ∀ k, j ≤ k → k ≤ n → (∀ i o, j ≤ i → i < k → ops[i]? = some o → o.dst ≠ some t) → nthD .bad (st k).fr t = nthD .bad (st j).fr t := by
  intro k
  induction k with
  | zero => intro hj _ _; have : j = 0 := by omega
            subst this; rfl
  | succ k ih =>
    intro hj hk hn
    rcases Nat.lt_or_ge k j with h' | h'
    · have : j = k + 1 := by omega
      subst this; rfl
    · rw [← ih h' (by omega) fun i o h1 h2 h3 => hn i o h1 (by omega) h3]
      obtain ⟨o, b, ho, _, hs, _⟩ := h.step k (by omega)
      obtain ⟨av, e⟩ := hs.put
      rw [e]
      exact nthD_put (hn k o h' (by omega) ho)
theorem RunS.keep {ops : List Oper} {n n0 : Nat} {st : Nat → St} {tc : Nat → Option (Nat × Bool)} (h : RunS P ops n n0 st tc) {id j : Nat} (hid : id < n0 + j) : ∀ k, j ≤ k → k ≤ n → (∀ i, j ≤ i → i < k → tc i ≠ some (id, true)) → obF (st k).obs id = obF (st j).obs id := by
  intro k
  induction k with
  | zero => intro hj _ _; have : j = 0 := by omega
            subst this; rfl
  | succ k ih =>
    intro hj hk hn
    rcases Nat.lt_or_ge k j with h' | h'
    · have : j = k + 1 := by omega
      subst this; rfl
    · rw [← ih h' (by omega) fun i h1 h2 => hn i h1 (by omega)]
      obtain ⟨o, b, _, _, hs, _⟩ := h.step k (by omega)
      exact (hs.obs (by rw [(h.len k (by omega)).1]; omega)).1 (hn k h' (by omega))
theorem RunS.tl {ops : List Oper} {n n0 : Nat} {st : Nat → St} {tc : Nat → Option (Nat × Bool)} (h : RunS P ops n n0 st tc) {id j : Nat} (hid : id < n0 + j) : ∀ k, j ≤ k → k ≤ n → TL (obF (st j).obs id) (obF (st k).obs id) := by
  intro k
  induction k with
  | zero => intro hj _; have : j = 0 := by omega
            subst this; exact TL.refl _
  | succ k ih =>
    intro hj hk
    rcases Nat.lt_or_ge k j with h' | h'
    · have : j = k + 1 := by omega
      subst this; exact TL.refl _
    · obtain ⟨o, b, _, _, hs, _⟩ := h.step k (by omega)
      exact (ih h' (by omega)).trans (hs.obs (by rw [(h.len k (by omega)).1]; omega)).2
theorem RunS.old {ops : List Oper} {n n0 : Nat} {st : Nat → St} {tc : Nat → Option (Nat × Bool)} (h : RunS P ops n n0 st tc) {id j : Nat} (hj : j < n) (ht : tc j = some (id, true)) : id < n0 + j := by
  obtain ⟨o, b, _, _, hs, _⟩ := h.step j hj
  rcases hs with ⟨_, e, _⟩ | ⟨_, ⟨av, e, _⟩ | ⟨av, nob, e, _⟩ | ⟨av, nob, id', e, _⟩ | ⟨id', ob, ob', l', e, _, h1, _⟩⟩ <;> rw [ht] at e <;> cases e
  have := obF_lt h1
  rwa [(h.len j (by omega)).1] at this
def lst (n0 : Nat) (tc : Nat → Option (Nat × Bool)) (S : Nat → Bool) (id : Nat) : Nat → Nat
  | 0 => if id < n0 then 0 else id - n0 + 1
  | k + 1 => if S k = true ∧ tc k = some (id, true) then k + 1 else lst n0 tc S id k
def obsG (n n0 : Nat) (st : Nat → St) (tc : Nat → Option (Nat × Bool)) (S : Nat → Bool) : Obs := fun id => if (decide (id < n0) || S (id - n0)) = true then obF (st (lst n0 tc S id n)).obs id else none
def birth (n0 id : Nat) : Nat := if id < n0 then 0 else id - n0 + 1
theorem birth_iff {n0 id j : Nat} : birth n0 id ≤ j ↔ id < n0 + j := by unfold birth; split <;> omega
theorem lst_eq {n0 : Nat} {tc tc' : Nat → Option (Nat × Bool)} {S S' : Nat → Bool} {id : Nat} : ∀ {n : Nat}, (∀ k, k < n → ((S k = true ∧ tc k = some (id, true)) ↔ (S' k = true ∧ tc' k = some (id, true)))) → lst n0 tc S id n = lst n0 tc' S' id n
  | 0, _ => rfl
  | n + 1, h => by
    unfold lst
    have h1 := h n (by omega)
    have h2 := lst_eq (n0 := n0) (n := n) (fun k hk => h k (by omega))
    by_cases c : S n = true ∧ tc n = some (id, true)
    · rw [if_pos c, if_pos (h1.1 c)]
    · rw [if_neg c, if_neg (fun c' => c (h1.2 c')), h2]
theorem lst_stop {n0 : Nat} {tc : Nat → Option (Nat × Bool)} {S : Nat → Bool} {id j : Nat} : ∀ n, j ≤ n → (∀ k, j ≤ k → k < n → ¬ (S k = true ∧ tc k = some (id, true))) → lst n0 tc S id n = lst n0 tc S id j := by
  intro n
  induction n with
  | zero => intro hj _; have : j = 0 := by omega
            subst this; rfl
  | succ n ih =>
    intro hj h
    rcases Nat.lt_or_ge n j with h' | h'
    · have : j = n + 1 := by omega
      subst this; rfl
    · have e : lst n0 tc S id (n + 1) = if S n = true ∧ tc n = some (id, true) then n + 1 else lst n0 tc S id n := rfl
      rw [e, if_neg (h n h' (by omega))]
      exact ih h' (fun k h1 h2 => h k h1 (by omega))
theorem RunS.lst_low {ops : List Oper} {n n0 : Nat} {st : Nat → St} {tc : Nat → Option (Nat × Bool)} (h : RunS P ops n n0 st tc) {S : Nat → Bool} {id : Nat} : ∀ m, m ≤ n → m ≤ birth n0 id → lst n0 tc S id m = birth n0 id
  | 0, _, _ => rfl
  | m + 1, hm, hb => by
    unfold lst
    rw [if_neg, h.lst_low m (by omega) (by omega)]
    rintro ⟨_, ht⟩
    have := birth_iff.2 (h.old (by omega) ht)
    omega
theorem RunS.lst_at {ops : List Oper} {n n0 : Nat} {st : Nat → St} {tc : Nat → Option (Nat × Bool)} (h : RunS P ops n n0 st tc) {S : Nat → Bool} {id : Nat} : ∀ m, m ≤ n → birth n0 id ≤ m → (∀ k, k < m → tc k = some (id, true) → S k = true) → obF (st (lst n0 tc S id m)).obs id = obF (st m).obs id := by
  intro m
  induction m with
  | zero =>
    intro _ hb _
    have : birth n0 id = 0 := by omega
    rw [h.lst_low 0 (by omega) (by omega), this]
  | succ m ih =>
    intro hm hb hS
    by_cases he : birth n0 id = m + 1
    · rw [h.lst_low (m + 1) hm (by omega), he]
    · unfold lst
      by_cases c : S m = true ∧ tc m = some (id, true)
      · rw [if_pos c]
      · rw [if_neg c, ih (by omega) (by omega) (fun k hk => hS k (by omega))]
        have hid : id < n0 + m := birth_iff.1 (by omega)
        exact (h.keep hid (m + 1) (by omega) hm fun i h1 h2 ht => by
          have : i = m := by omega
          subst this
          exact c ⟨hS i (by omega) ht, ht⟩).symm
theorem RunS.lst_ge {ops : List Oper} {n n0 : Nat} {st : Nat → St} {tc : Nat → Option (Nat × Bool)} (h : RunS P ops n n0 st tc) {S : Nat → Bool} {id : Nat} : ∀ m, m ≤ n → birth n0 id ≤ lst n0 tc S id m ∧ (birth n0 id ≤ n → lst n0 tc S id m ≤ n)
  | 0, _ => ⟨Nat.le_refl _, fun hb => hb⟩
  | m + 1, hm => by
    unfold lst
    split
    · rename_i c
      have := birth_iff.2 (h.old (by omega) c.2)
      exact ⟨by omega, fun _ => hm⟩
    · exact h.lst_ge m (by omega)
theorem birth_lt {n0 id j : Nat} (h : birth n0 id ≤ j) : id < n0 + j := birth_iff.1 h
theorem RunS.obsG_tl {ops : List Oper} {n n0 : Nat} {st : Nat → St} {tc : Nat → Option (Nat × Bool)} (h : RunS P ops n n0 st tc) {S : Nat → Bool} {id j : Nat} (hdom : (decide (id < n0) || S (id - n0)) = true) (hb : birth n0 id ≤ j) (hj : j ≤ n) : TL (obsG n n0 st tc S id) (obF (st j).obs id) := by
  unfold obsG
  rw [if_pos hdom]
  obtain ⟨h1, h2⟩ := h.lst_ge (S := S) (id := id) n (Nat.le_refl _)
  have h3 := h2 (by omega)
  exact (h.tl (birth_lt (Nat.le_refl _)) _ h1 h3).symm.trans (h.tl (birth_lt (Nat.le_refl _)) j hb hj)
structure DrawD (ops : List Oper) : Prop where
  nosel : ∀ (j : Nat) (o : Oper) cs b, ops.toArray[j]? = some o → o.op ≠ .select cs b
  back : ∀ (j : Nat) (o : Oper), ops[j]? = some o → ∀ e ∈ o.after.toList, Region.binds .any e = true → e.on < j
  one : ∀ (i j : Nat) (p o : Oper) (d : Tmp), ops[i]? = some p → ops[j]? = some o → p.dst = some d → o.dst = some d → i = j
  reads : ∀ (i j : Nat) (p o : Oper) (d : Tmp), ops[i]? = some p → ops[j]? = some o → p.dst = some d → d ∈ readsOf ops o → (i < j ∧ (nthD 0 (befores ops []) j).testBit i = true) ∨ (j < i ∧ (nthD 0 (befores ops []) i).testBit j = true)
theorem drawD_spec {ops : List Oper} (h : drawD ops = true) : DrawD ops := by
  unfold drawD at h
  simp only [Bool.and_eq_true] at h
  obtain ⟨h1, h2⟩ := h
  have hlt : ∀ {j : Nat} {o : Oper}, ops[j]? = some o → j < ops.length := fun h => (List.getElem?_eq_some_iff.1 h).1
  have key : ∀ (i j : Nat) (p o : Oper) (d : Tmp), ops[i]? = some p → ops[j]? = some o → p.dst = some d → (i == j || o.dst != some d) = true ∧ (!hasT d (readsOf ops o) || (decide (i < j) && (nthD 0 (befores ops []) j).testBit i) || (decide (j < i) && (nthD 0 (befores ops []) i).testBit j)) = true := by
    intro i j p o d hp ho hd
    have := allBelow_spec h2 j (hlt ho)
    rw [ho] at this
    have := allBelow_spec this i (hlt hp)
    rw [hp] at this
    simp only [hd, Bool.and_eq_true] at this
    exact this
  refine ⟨fun j o cs b ho e => ?_, fun j o ho e he hb => ?_, fun i j p o d hp ho hd ho' => ?_, fun i j p o d hp ho hd hr => ?_⟩
  · have ho' : ops[j]? = some o := by simpa using ho
    have := allBelow_spec h1 j (hlt ho')
    rw [ho'] at this
    simp only [Bool.and_eq_true] at this
    rw [e] at this
    simp [selB] at this
  · have := allBelow_spec h1 j (hlt ho)
    rw [ho] at this
    simp only [Bool.and_eq_true, List.all_eq_true] at this
    have := this.2 e he
    simp only [hb, Bool.not_true, Bool.false_or, decide_eq_true_eq] at this
    exact this
  · have := (key i j p o d hp ho hd).1
    simp only [Bool.or_eq_true, beq_iff_eq, bne_iff_ne, ne_eq] at this
    exact this.resolve_right fun h => h ho'
  · have := (key i j p o d hp ho hd).2
    rw [hasT_mem hr] at this
    simpa using this
def DInvS (ops : List Oper) (n0 : Nat) (st : Nat → St) (tc : Nat → Option (Nat × Bool)) (M0 : Nat → Prop) (b0 : Nat → Prop) (w0 : World) (nt : NT) (S : Nat → Bool) (a : Act) (w : World) : Prop :=
  a.defers = nt.df ∧ Beyond b0 w0 w ∧ a.tmps.size = (st 0).fr.length ∧ a.tmps.size = nt.n ∧ ∃ ν, Rows nt.ro ν n0 ∧ Good M0 b0 ν (obsG ops.length n0 st tc S) w ∧ ∀ t,
    (∀ i o, ops[i]? = some o → o.dst = some t → S i = true → RepA (Msum M0 ν (obsG ops.length n0 st tc S)) ν (domS n0 S) (obsG ops.length n0 st tc S) w (nthD .bad (st (i + 1)).fr t) (a.tmps.getD t undef)) ∧
    ((∀ i o, ops[i]? = some o → o.dst = some t → S i = false) → RepA (Msum M0 ν (obsG ops.length n0 st tc S)) ν (domS n0 S) (obsG ops.length n0 st tc S) w (nthD .bad (st 0).fr t) (a.tmps.getD t undef))
section
variable {ops : List Oper} {n0 : Nat} {st : Nat → St} {tc : Nat → Option (Nat × Bool)} {M0 : Nat → Prop} {b0 : Nat → Prop} {w0 : World} {S : Nat → Bool} {a : Act} {w : World} {j : Nat} {o : Oper}
theorem before_ltD (hd : DrawD ops) : ∀ n i q, i < n → (nthD 0 (befores ops []) i).testBit q = true → q < i := by
  intro n
  induction n with
  | zero => intro i q hi; omega
  | succ n ihn =>
    intro i q hi hq
    have hil : i < ops.length := by
      rcases Nat.lt_or_ge i ops.length with h' | h'
      · exact h'
      · rw [nthD_eq, List.getD_eq_getElem?_getD, List.getElem?_eq_none (by rw [befores_length]; exact h')] at hq
        simp at hq
    obtain ⟨p, hp⟩ : ∃ p, ops[i]? = some p := ⟨ops[i], by simp [hil]⟩
    obtain ⟨e, h5, h6, h7⟩ := before_bit hp hq
    have hb := hd.back i p hp e h5 h6
    rcases h7 with h7 | h7
    · omega
    · have := ihn e.on q (by omega) h7
      omega
theorem ready_neD (hd : DrawD ops) {L : Array Bool} (hsz : L.size = ops.length) {i : Nat} (hi : i < ops.length) (hs : Sl L i = false) : Region.ready .any ops.toArray L ≠ [] := by
  obtain ⟨k, h1, h2, h3⟩ := exists_least (p := Sl L) ops.length i hi hs
  obtain ⟨o, ho⟩ : ∃ o, ops[k]? = some o := ⟨ops[k], by simp [show k < ops.length by omega]⟩
  have := ready_of hsz ho h2 fun e he hb => h3 _ (hd.back k o ho e he hb)
  intro h
  rw [h] at this
  cases this
theorem bits_at {b : Nat} (hb : (befores ops [])[j]? = some b) {i : Nat} : b.testBit i = (nthD 0 (befores ops []) j).testBit i := by
  rw [nthD_eq, List.getD_eq_getElem?_getD, hb]
  rfl
theorem RunS.touch (hd : DrawD ops) (hr : RunS P ops ops.length n0 st tc) (hj : j < ops.length) (hs : S j = false) (hrdy : ∀ i, (nthD 0 (befores ops []) j).testBit i = true → S i = true)
    (hcl : ∀ i, i < ops.length → S i = true → ∀ k, (nthD 0 (befores ops []) i).testBit k = true → S k = true) {id : Nat} {wr : Bool} (ht : tc j = some (id, wr)) :
    (decide (id < n0) || S (id - n0)) = true ∧ birth n0 id ≤ j ∧ (∀ k, j ≤ k → k < ops.length → ¬ (S k = true ∧ tc k = some (id, true))) ∧ obsG ops.length n0 st tc S id = obF (st j).obs id := by
  obtain ⟨o, b, ho, hb, hst, hv, hc⟩ := hr.step j hj
  have hvis := hv id wr ht
  have hdom : (decide (id < n0) || S (id - n0)) = true := by
    simp only [Bool.or_eq_true, decide_eq_true_eq] at hvis ⊢
    rcases hvis with h | h
    · exact .inl h
    · rw [bits_at hb] at h
      exact .inr (hrdy _ h)
  have hbirth : birth n0 id ≤ j := by
    rw [birth_iff]
    simp only [Bool.or_eq_true, decide_eq_true_eq] at hvis
    rcases hvis with h | h
    · omega
    · rw [bits_at hb] at h
      have := before_ltD hd (j + 1) j _ (by omega) h
      omega
  have hafter : ∀ k, j ≤ k → k < ops.length → ¬ (S k = true ∧ tc k = some (id, true)) := by
    rintro k h1 h2 ⟨h3, h4⟩
    rcases Nat.lt_or_eq_of_le h1 with h | h
    · obtain ⟨_, b', _, hb', _, _, hc'⟩ := hr.step k h2
      have := hc' id true h4 j wr h ht (.inl rfl)
      rw [bits_at hb'] at this
      have := hcl k h2 h3 j this
      rw [hs] at this; cases this
    · subst h; rw [hs] at h3; cases h3
  refine ⟨hdom, hbirth, hafter, ?_⟩
  unfold obsG
  rw [if_pos hdom, lst_stop ops.length (Nat.le_of_lt hj) hafter]
  exact hr.lst_at j (Nat.le_of_lt hj) hbirth fun k hk htk => by
    have := hc id wr ht k true hk htk (.inr rfl)
    rw [bits_at hb] at this
    exact hrdy k this
theorem RunS.no_store_new (hr : RunS P ops ops.length n0 st tc) (hs : S j = false)
    (hcl : ∀ i, i < ops.length → S i = true → ∀ k, (nthD 0 (befores ops []) i).testBit k = true → S k = true) : ∀ k, k < ops.length → ¬ (S k = true ∧ tc k = some (n0 + j, true)) := by
  rintro k hk ⟨h1, h2⟩
  obtain ⟨_, b, _, hb, _, hv, _⟩ := hr.step k hk
  have := hv _ _ h2
  simp only [Bool.or_eq_true, decide_eq_true_eq] at this
  rcases this with h | h
  · omega
  · rw [bits_at hb, show n0 + j - n0 = j by omega] at h
    have := hcl k hk h1 j h
    rw [hs] at this; cases this
theorem RunS.obsG_new (hr : RunS P ops ops.length n0 st tc) (hj : j < ops.length) (hs : S j = false)
    (hcl : ∀ i, i < ops.length → S i = true → ∀ k, (nthD 0 (befores ops []) i).testBit k = true → S k = true) (hns : ∀ id, tc j ≠ some (id, true)) {nob : Option Ob} (hst : (st (j + 1)).obs = (st j).obs ++ [nob]) :
    obsG ops.length n0 st tc (fun i => i == j || S i) = upd (obsG ops.length n0 st tc S) (n0 + j) nob := by
  funext id
  have hkk : ∀ k id, ((k == j || S k) = true ∧ tc k = some (id, true)) ↔ (S k = true ∧ tc k = some (id, true)) := fun k id => by
    by_cases e : k = j
    · subst e
      exact ⟨fun h => absurd h.2 (hns id), fun h => absurd h.2 (hns id)⟩
    · have : (k == j) = false := by simpa using e
      rw [this, Bool.false_or]
  by_cases he : id = n0 + j
  · subst he
    unfold obsG
    simp only [upd, if_true]
    have e1 : n0 + j - n0 = j := by omega
    rw [e1]
    simp only [beq_self_eq_true, Bool.true_or, Bool.or_true, if_true]
    have hl : lst n0 tc (fun i => i == j || S i) (n0 + j) ops.length = j + 1 := by
      rw [lst_stop ops.length (Nat.zero_le _) fun k _ hk h => hr.no_store_new hs hcl k hk ((hkk k _).1 h)]
      show (if n0 + j < n0 then 0 else n0 + j - n0 + 1) = j + 1
      rw [if_neg (by omega)]; omega
    rw [hl, hst, obF_snoc]
    simp only [upd]
    rw [if_pos (by rw [(hr.len j (by omega)).1])]
  · unfold obsG
    simp only [upd, if_neg he]
    have hd : (decide (id < n0) || (id - n0 == j || S (id - n0))) = (decide (id < n0) || S (id - n0)) := by
      by_cases h : id < n0
      · simp [h]
      · have : (id - n0 == j) = false := by simp; omega
        rw [this, Bool.false_or]
    rw [hd, lst_eq (fun k _ => hkk k id)]
theorem RunS.obsG_store (hd : DrawD ops) (hr : RunS P ops ops.length n0 st tc) (hj : j < ops.length) (hs : S j = false) (hrdy : ∀ i, (nthD 0 (befores ops []) j).testBit i = true → S i = true)
    (hcl : ∀ i, i < ops.length → S i = true → ∀ k, (nthD 0 (befores ops []) i).testBit k = true → S k = true) {id0 : Nat} {ob' : Ob} (ht : tc j = some (id0, true)) (hl' : obF (st (j + 1)).obs = upd (obF (st j).obs) id0 (some ob')) :
    obsG ops.length n0 st tc (fun i => i == j || S i) = upd (obsG ops.length n0 st tc S) id0 (some ob') := by
  obtain ⟨hdom, hb, hafter, _⟩ := hr.touch hd hj hs hrdy hcl ht
  have hold := hr.old hj ht
  funext id
  have hd2 : id ≠ n0 + j → (decide (id < n0) || (id - n0 == j || S (id - n0))) = (decide (id < n0) || S (id - n0)) := fun he => by
    by_cases h : id < n0
    · simp [h]
    · have : (id - n0 == j) = false := by simp; omega
      rw [this, Bool.false_or]
  by_cases he : id = id0
  · subst he
    unfold obsG
    simp only [upd, if_true]
    rw [hd2 (by omega), if_pos hdom]
    have hl : lst n0 tc (fun i => i == j || S i) id ops.length = j + 1 := by
      rw [lst_stop (j := j + 1) ops.length (by omega) fun k h1 h2 h => by
        have hk : (k == j) = false := by simp; omega
        have h3 := h.1
        simp only [hk, Bool.false_or] at h3
        exact hafter k (by omega) h2 ⟨h3, h.2⟩]
      have e : lst n0 tc (fun i => i == j || S i) id (j + 1) = if (j == j || S j) = true ∧ tc j = some (id, true) then j + 1 else lst n0 tc (fun i => i == j || S i) id j := rfl
      rw [e, if_pos ⟨by simp, ht⟩]
    rw [hl, hl']
    simp [upd]
  · have hkk : ∀ k, ((k == j || S k) = true ∧ tc k = some (id, true)) ↔ (S k = true ∧ tc k = some (id, true)) := fun k => by
      by_cases e : k = j
      · subst e
        constructor <;> intro h <;> (rw [ht] at h; exact absurd (by have := h.2; simp at this; exact this.symm) he)
      · have : (k == j) = false := by simpa using e
        rw [this, Bool.false_or]
    by_cases hn : id = n0 + j
    · subst hn
      unfold obsG
      simp only [upd, if_neg he]
      have e1 : n0 + j - n0 = j := by omega
      rw [e1]
      simp only [beq_self_eq_true, Bool.true_or, Bool.or_true, if_true]
      have hl : lst n0 tc (fun i => i == j || S i) (n0 + j) ops.length = j + 1 := by
        rw [lst_stop ops.length (Nat.zero_le _) fun k _ hk h => hr.no_store_new hs hcl k hk ((hkk k).1 h)]
        show (if n0 + j < n0 then 0 else n0 + j - n0 + 1) = j + 1
        rw [if_neg (by omega)]; omega
      rw [hl, hl', hs]
      simp only [upd, if_neg he]
      rw [if_neg (by simp)]
      cases hx : obF (st j).obs (n0 + j) with
      | none => rfl
      | some ob => have := obF_lt hx
                   rw [(hr.len j (by omega)).1] at this
                   omega
    · unfold obsG
      simp only [upd, if_neg he]
      rw [hd2 hn, lst_eq (fun k _ => hkk k)]
theorem dinvS_next (hd : DrawD ops) (hr : RunS P ops ops.length n0 st tc) (hj : j < ops.length) (ho : ops[j]? = some o) {ν ν' : Nat → Value} {w' : World} {v : Value}
    (h1 : a.defers = nt.df) (h2 : Beyond b0 w0 w) (h3 : a.tmps.size = (st 0).fr.length) (hn3 : a.tmps.size = nt.n) (hw : Rows nt.ro ν n0)
    (h4 : ∀ t, (∀ i o, ops[i]? = some o → o.dst = some t → S i = true → RepA (Msum M0 ν (obsG ops.length n0 st tc S)) ν (domS n0 S) (obsG ops.length n0 st tc S) w (nthD .bad (st (i + 1)).fr t) (a.tmps.getD t undef)) ∧
      ((∀ i o, ops[i]? = some o → o.dst = some t → S i = false) → RepA (Msum M0 ν (obsG ops.length n0 st tc S)) ν (domS n0 S) (obsG ops.length n0 st tc S) w (nthD .bad (st 0).fr t) (a.tmps.getD t undef)))
    (hB : Beyond b0 w w') (hnu : ∀ id, id < n0 → ν' id = ν id) (hG : Good M0 b0 ν' (obsG ops.length n0 st tc (fun i => i == j || S i)) w')
    (hkeep : ∀ x u, RepA (Msum M0 ν (obsG ops.length n0 st tc S)) ν (domS n0 S) (obsG ops.length n0 st tc S) w x u →
      RepA (Msum M0 ν' (obsG ops.length n0 st tc (fun i => i == j || S i))) ν' (domS n0 (fun i => i == j || S i)) (obsG ops.length n0 st tc (fun i => i == j || S i)) w' x u)
    {av : AV} (hput : (st (j + 1)).fr = put (st j).fr o.dst av)
    (hR : RepA (Msum M0 ν' (obsG ops.length n0 st tc (fun i => i == j || S i))) ν' (domS n0 (fun i => i == j || S i)) (obsG ops.length n0 st tc (fun i => i == j || S i)) w' av v) :
    DInvS ops n0 st tc M0 b0 w0 nt (fun i => i == j || S i) (a.put o.dst v) w' := by
  refine ⟨by cases h : o.dst <;> simpa [Act.put, h] using h1, h2.trans hB, by cases h : o.dst <;> simpa [Act.put, h] using h3, by cases h : o.dst <;> simpa [Act.put, h] using hn3, ν', hw.next (Nat.le_refl _) (fun j hj => hnu j hj), hG, fun t => ?_⟩
  by_cases hdt : o.dst = some t
  · have hval : RepA (Msum M0 ν' (obsG ops.length n0 st tc (fun i => i == j || S i))) ν' (domS n0 (fun i => i == j || S i)) (obsG ops.length n0 st tc (fun i => i == j || S i)) w' (nthD .bad (st (j + 1)).fr t) ((a.put o.dst v).tmps.getD t undef) := by
      rw [hput, hdt]
      simp only [put, Act.put]
      rw [nthD_setN]
      by_cases hlt : t < (st j).fr.length
      · rw [if_pos ⟨rfl, hlt⟩]
        have hlt' : t < a.tmps.size := by rw [h3, ← (hr.len j (by omega)).2]; exact hlt
        have : (a.tmps.setIfInBounds t v).getD t undef = v := by simp [Array.getD_eq_getD_getElem?, hlt']
        rw [this]
        exact hR
      · rw [if_neg (fun h => hlt h.2)]
        have : nthD AV.bad (st j).fr t = .bad := by rw [nthD_eq, List.getD_eq_getElem?_getD, List.getElem?_eq_none (Nat.le_of_not_lt hlt)]; rfl
        rw [this]
        trivial
    refine ⟨fun i p hp hpd _ => ?_, fun hall => ?_⟩
    · have : i = j := hd.one i j p o t hp ho hpd hdt
      subst this
      exact hval
    · have := hall j o ho hdt
      simp at this
  · have hcell : (a.put o.dst v).tmps.getD t undef = a.tmps.getD t undef := by
      cases h : o.dst with
      | none => rfl
      | some u =>
        have hne : u ≠ t := fun e => hdt (by rw [h, e])
        simp [Act.put, Array.getD_eq_getD_getElem?, Array.getElem?_setIfInBounds_ne hne]
    rw [hcell]
    refine ⟨fun i p hp hpd hsi => ?_, fun hall => ?_⟩
    · have hij : (i == j) = false := by
        simp only [beq_eq_false_iff_ne]
        intro e
        subst e
        rw [ho] at hp
        cases hp
        exact hdt hpd
      simp only [hij, Bool.false_or] at hsi
      exact hkeep _ _ ((h4 t).1 i p hp hpd hsi)
    · refine hkeep _ _ ((h4 t).2 fun i p hp hpd => ?_)
      have := hall i p hp hpd
      simp only [Bool.or_eq_false_iff] at this
      exact this.2
theorem dinvS_read (hd : DrawD ops) (hr : RunS P ops ops.length n0 st tc) (hj : j < ops.length) (hs : S j = false) (ho : ops[j]? = some o)
    (hrdy : ∀ i, (nthD 0 (befores ops []) j).testBit i = true → S i = true) (hcl : ∀ i, i < ops.length → S i = true → ∀ k, (nthD 0 (befores ops []) i).testBit k = true → S k = true) {ν : Nat → Value}
    (h4 : ∀ t, (∀ i o, ops[i]? = some o → o.dst = some t → S i = true → RepA (Msum M0 ν (obsG ops.length n0 st tc S)) ν (domS n0 S) (obsG ops.length n0 st tc S) w (nthD .bad (st (i + 1)).fr t) (a.tmps.getD t undef)) ∧
      ((∀ i o, ops[i]? = some o → o.dst = some t → S i = false) → RepA (Msum M0 ν (obsG ops.length n0 st tc S)) ν (domS n0 S) (obsG ops.length n0 st tc S) w (nthD .bad (st 0).fr t) (a.tmps.getD t undef)))
    {t : Tmp} (ht : t ∈ readsOf ops o) : RepA (Msum M0 ν (obsG ops.length n0 st tc S)) ν (domS n0 S) (obsG ops.length n0 st tc S) w (nthD .bad (st j).fr t) (a.tmps.getD t undef) := by
  have hlt : ∀ {i : Nat} {p : Oper}, ops[i]? = some p → i < ops.length := fun h => (List.getElem?_eq_some_iff.1 h).1
  by_cases hex : ∃ (i : Nat) (p : Oper), ops[i]? = some p ∧ p.dst = some t
  · obtain ⟨i, p, hp, hpd⟩ := hex
    rcases hd.reads i j p o t hp ho hpd ht with ⟨h1, h2⟩ | ⟨h1, h2⟩
    · have := (h4 t).1 i p hp hpd (hrdy i h2)
      rwa [← hr.fr j h1 (by omega) fun k q h5 h6 hq e => by
        have := hd.one i k p q t hp hq hpd e
        omega] at this
    · have hSi : S i = false := by
        cases h : S i with
        | false => rfl
        | true => have := hcl i (hlt hp) h j h2
                  rw [hs] at this; cases this
      have := (h4 t).2 fun k q hq e => by
        have := hd.one i k p q t hp hq hpd e
        rw [← this]; exact hSi
      rwa [← hr.fr j (Nat.zero_le _) (by omega) fun k q h5 h6 hq e => by
        have := hd.one i k p q t hp hq hpd e
        omega] at this
  · have := (h4 t).2 fun k q hq e => absurd ⟨k, q, hq, e⟩ hex
    rwa [← hr.fr j (Nat.zero_le _) (by omega) fun k q h5 h6 hq e => hex ⟨k, q, hq, e⟩] at this
theorem dinvS_start (hr : RunS P ops ops.length n0 st tc) (hm : Matches M0 b0 w0 nt (st 0) a w) : DInvS ops n0 st tc M0 b0 w0 nt (fun _ => false) a w := by
  obtain ⟨h1, h2, h3, hn3, ν, hw, hg, h4⟩ := hm
  have e1 : obsG ops.length n0 st tc (fun _ => false) = obF (st 0).obs := by
    funext id
    unfold obsG
    simp only [Bool.or_false, decide_eq_true_eq]
    split
    · rename_i h
      rw [lst_stop ops.length (Nat.zero_le _) fun k _ _ hk => by cases hk.1]
      show obF (st (if id < n0 then 0 else id - n0 + 1)).obs id = _
      rw [if_pos h]
    · rename_i h
      cases hx : obF (st 0).obs id with
      | none => rfl
      | some ob => have := obF_lt hx
                   have := hr.start
                   omega
  have e2 : domS n0 (fun _ => false) = (· < (st 0).obs.length) := by
    funext id
    simp [domS, hr.start]
  refine ⟨h1, h2, h3, hn3, ν, by rw [← hr.start]; exact hw, ?_⟩
  rw [e1, e2]
  exact ⟨hg, fun t => ⟨fun i o _ _ h => by simp at h, fun _ => h4 t⟩⟩
theorem dinvS_end (hd : DrawD ops) (hr : RunS P ops ops.length n0 st tc) (hS : ∀ i, S i = true ↔ i < ops.length) (h : DInvS ops n0 st tc M0 b0 w0 nt S a w) : Matches M0 b0 w0 nt (st ops.length) a w := by
  obtain ⟨h1, h2, h3, hn3, ν, hw, hg, h4⟩ := h
  have hlt : ∀ {i : Nat} {p : Oper}, ops[i]? = some p → i < ops.length := fun h => (List.getElem?_eq_some_iff.1 h).1
  have hl := hr.len ops.length (Nat.le_refl _)
  have e1 : obsG ops.length n0 st tc S = obF (st ops.length).obs := by
    funext id
    unfold obsG
    split
    · rename_i h
      simp only [Bool.or_eq_true, decide_eq_true_eq, hS] at h
      exact hr.lst_at ops.length (Nat.le_refl _) (birth_iff.2 (by omega)) fun k hk _ => (hS k).2 hk
    · rename_i h
      simp only [Bool.or_eq_true, decide_eq_true_eq, hS] at h
      cases hx : obF (st ops.length).obs id with
      | none => rfl
      | some ob => have := obF_lt hx
                   omega
  have e2 : domS n0 S = (· < (st ops.length).obs.length) := by
    funext id
    apply propext
    simp only [domS, Bool.or_eq_true, decide_eq_true_eq, hS, hl.1]
    omega
  rw [e1, e2] at h4
  rw [e1] at hg
  refine ⟨h1, h2, by rw [h3, hl.2], hn3, ν, hw.next (by omega) (fun _ _ => rfl), hg, fun t => ?_⟩
  by_cases hex : ∃ (i : Nat) (p : Oper), ops[i]? = some p ∧ p.dst = some t
  · obtain ⟨i, p, hp, hpd⟩ := hex
    have hi := hlt hp
    have := (h4 t).1 i p hp hpd ((hS i).2 hi)
    rwa [← hr.fr ops.length hi (Nat.le_refl _) fun k q h5 h6 hq e => by
      have := hd.one i k p q t hp hq hpd e
      omega] at this
  · have := (h4 t).2 fun k q hq e => absurd ⟨k, q, hq, e⟩ hex
    rwa [← hr.fr ops.length (Nat.zero_le _) (Nat.le_refl _) fun k q h5 h6 hq e => hex ⟨k, q, hq, e⟩] at this
theorem draws_any (hd : DrawD ops) (hr : RunS P ops ops.length n0 st tc) {K : St → Option R} {r : R} {Q : Exit → Act → World → Prop}
    (hQ : ∀ s' a' w', K s' = some r → Matches M0 b0 w0 nt s' a' w' → Q .normal a' w') (hK : K (st ops.length) = some r) : ∀ (fuel : Nat) (L : Array Bool) (a : Act) (w : World), L.size = ops.length → unl (Sl L) ops.length ≤ fuel →
      (∀ i, Sl L i = true → ∀ k, (nthD 0 (befores ops []) i).testBit k = true → Sl L k = true) → DInvS ops n0 st tc M0 b0 w0 nt (Sl L) a w → wpAny P .any ops.toArray Q fuel L a w := by
  intro fuel
  have hfull : ∀ (L : Array Bool) (a : Act) (w : World), L.size = ops.length → DInvS ops n0 st tc M0 b0 w0 nt (Sl L) a w → (∀ i, i < ops.length → Sl L i = true) → Q .normal a w := by
    intro L a w hsz hI hall
    exact hQ _ a w hK (dinvS_end hd hr (fun i => ⟨fun h => by have := Sl_lt h; omega, hall i⟩) hI)
  induction fuel with
  | zero =>
    intro L a w hsz hf hcl hI
    have hall := unl_zero (S := Sl L) (n := ops.length) (by omega)
    refine ⟨?_, hfull L a w hsz hI hall⟩
    cases hrd : Region.ready .any ops.toArray L with
    | nil => rfl
    | cons j l =>
      obtain ⟨h1, h2, _⟩ := Sl_ready hsz (j := j) (by rw [hrd]; simp)
      rw [hall j h1] at h2
      cases h2
  | succ fuel ih =>
    intro L a w hsz hf hcl hI
    refine ⟨fun hrd => hfull L a w hsz hI fun i hi => ?_, fun j hjr => ?_⟩
    · cases h : Sl L i with
      | true => rfl
      | false => exact absurd hrd (ready_neD hd hsz hi h)
    obtain ⟨hj, hs, o, ho, he⟩ := Sl_ready hsz hjr
    have hrdy : ∀ i, (nthD 0 (befores ops []) j).testBit i = true → Sl L i = true := fun i hi => ready_before hcl ho he hi
    have hclS : ∀ i, i < ops.length → Sl L i = true → ∀ k, (nthD 0 (befores ops []) i).testBit k = true → Sl L k = true := fun i _ hi k hk => hcl i hi k hk
    obtain ⟨o', b, ho', hb, hst, hvis, hcf⟩ := hr.step j hj
    rw [ho] at ho'
    cases ho'
    obtain ⟨g1, g2, g3, gn3, ν, hw, hg, g4⟩ := hI
    have hread : ∀ t, t ∈ readsOf ops o → RepA (Msum M0 ν (obsG ops.length n0 st tc (Sl L))) ν (domS n0 (Sl L)) (obsG ops.length n0 st tc (Sl L)) w (nthD .bad (st j).fr t) (a.tmps.getD t undef) := fun t ht => dinvS_read hd hr hj hs ho hrdy hclS g4 ht
    have hops : ∀ x ∈ o.op.operands, RepA (Msum M0 ν (obsG ops.length n0 st tc (Sl L))) ν (domS n0 (Sl L)) (obsG ops.length n0 st tc (Sl L)) w (evA (st j).fr x) (a.eval x) := fun x hx => by
      refine evA_rep_at hg.glM x fun t e => ?_
      subst e
      exact hread t (by unfold readsOf; exact List.mem_append_left _ (opTmps_mem hx))
    have hlen : (st j).obs.length = n0 + j := (hr.len j (by omega)).1
    have hwant : ∀ y, Way ops (st j) o y → Region.wanted o (yielded ops.toArray a.tmps) = y := by
      intro y hy
      refine hy.wanted' fun g want p d hg1 hg2 hg3 hg4 => ?_
      have hr' := hread d (by
        unfold readsOf
        simp [hg1, hg2, hg3])
      have hlt' : d < a.tmps.size := by rw [g3, ← (hr.len j (by omega)).2]; exact nthD_lt rfl hg4
      exact ⟨a.tmps[d], by simp [hlt'], _, ν, _, _, w, by simpa [Array.getD_eq_getD_getElem?, hlt'] using hr'⟩
    have hndom : ¬ domS n0 (Sl L) (n0 + j) := domS_not hs
    have hnone : obsG ops.length n0 st tc (Sl L) (n0 + j) = none := by
      unfold obsG
      exact if_neg hndom
    have hoa : ops.toArray[j]? = some o := by simpa using ho
    have hnext : ∀ (ν' : Nat → Value) (w' : World) (v : Value) (av : AV), (st (j + 1)).fr = put (st j).fr o.dst av → Beyond b0 w w' → (∀ id, id < n0 → ν' id = ν id) → Good M0 b0 ν' (obsG ops.length n0 st tc (fun i => i == j || Sl L i)) w' →
        (∀ x u, RepA (Msum M0 ν (obsG ops.length n0 st tc (Sl L))) ν (domS n0 (Sl L)) (obsG ops.length n0 st tc (Sl L)) w x u →
          RepA (Msum M0 ν' (obsG ops.length n0 st tc (fun i => i == j || Sl L i))) ν' (domS n0 (fun i => i == j || Sl L i)) (obsG ops.length n0 st tc (fun i => i == j || Sl L i)) w' x u) →
        RepA (Msum M0 ν' (obsG ops.length n0 st tc (fun i => i == j || Sl L i))) ν' (domS n0 (fun i => i == j || Sl L i)) (obsG ops.length n0 st tc (fun i => i == j || Sl L i)) w' av v →
        wpAny P .any ops.toArray Q fuel (L.setIfInBounds j true) (a.put o.dst v) w' := by
      intro ν' w' v av hput hB hnu hG hkeep hR
      have hD := dinvS_next hd hr hj ho g1 g2 g3 gn3 hw g4 hB hnu hG hkeep hput hR
      rw [← Sl_set (by omega)] at hD
      refine ih _ _ _ (by simpa using hsz) ?_ (closed_set hcl ho (by omega) he) hD
      rw [Sl_set (by omega)]
      have := unl_set (S := Sl L) hj hs
      omega
    have hfree : ∀ (ν' : Nat → Value) (w' : World) (v : Value) (av : AV) (nob : Option Ob), st (j + 1) = ⟨put (st j).fr o.dst av, (st j).obs ++ [nob]⟩ → (∀ id, tc j ≠ some (id, true)) → Later M0 (n0 + j) ν ν' (obsG ops.length n0 st tc (Sl L)) nob w w' →
        Good M0 b0 ν' (upd (obsG ops.length n0 st tc (Sl L)) (n0 + j) nob) w' →
        RepA (Msum M0 ν' (upd (obsG ops.length n0 st tc (Sl L)) (n0 + j) nob)) ν' (fun id => domS n0 (Sl L) id ∨ id = n0 + j) (upd (obsG ops.length n0 st tc (Sl L)) (n0 + j) nob) w' av v →
        wpAny P .any ops.toArray Q fuel (L.setIfInBounds j true) (a.put o.dst v) w' := by
      intro ν' w' v av nob hst' hns hL hG hR
      have e1 := hr.obsG_new hj hs hclS hns (nob := nob) (by rw [hst'])
      have e2 : domS n0 (fun i => i == j || Sl L i) = fun id => domS n0 (Sl L) id ∨ id = n0 + j := domS_step
      refine hnext ν' w' v av (by rw [hst']) (Beyond.of_below hL.below hg.hb) (fun id hid => hL.nu id (by omega)) (by rw [e1]; exact hG) (fun x u hx => ?_) (by rw [e1, e2]; exact hR)
      rw [e1, e2]
      exact hx.later hL hndom
    have hsame := hg.same hnone (Below.refl _ w)
    rcases hst with ⟨hy, ht, hst⟩ | ⟨hy, ⟨av, ht, hst, hS⟩ | ⟨av, nob, ht, hst, hS⟩ | ⟨av, nob, id, ht, hst, hS⟩ | ⟨id, ob, ob', l', ht, hst, hob, hl', hll, htl, hS⟩⟩
    · unfold wpOp
      simp only [hoa]
      rw [hwant _ hy]
      simp only [Bool.false_eq_true, if_false]
      obtain ⟨hL, hG⟩ := hsame
      exact hfree ν w undef .und none hst (fun id => by rw [ht]; simp) hL hG rfl
    · unfold wpOp
      simp only [hoa]
      rw [hwant _ hy]
      simp only [if_true]
      refine .inl ?_
      obtain ⟨hL, hG⟩ := hsame
      let obsT : Obs := fun id => match maskB n0 b (st j) id with
        | some ob => some ob
        | none => obsG ops.length n0 st tc (Sl L) id
      have htl : ∀ id, domS n0 (Sl L) id → TL (obsG ops.length n0 st tc (Sl L) id) (obsT id) := by
        intro id hid
        show TL _ (match maskB n0 b (st j) id with | some ob => some ob | none => obsG ops.length n0 st tc (Sl L) id)
        cases hmk : maskB n0 b (st j) id with
        | none => exact TL.refl _
        | some ob =>
          unfold maskB at hmk
          cases hvb : decide (id < n0) || b.testBit (id - n0)
          · rw [hvb] at hmk; cases hmk
          · rw [hvb] at hmk
            simp only [cond_true] at hmk
            have hlt := obF_lt (obs := (st j).obs) hmk
            rw [hlen] at hlt
            have := hr.obsG_tl (S := Sl L) hid (birth_iff.2 hlt) (by omega)
            rw [show obF (st j).obs id = some ob from hmk] at this
            exact this
      obtain ⟨v, hv, hR⟩ := hS (Msum M0 ν (obsG ops.length n0 st tc (Sl L))) ν (domS n0 (Sl L)) obsT w a o rfl (fun id ob h => by show (match maskB n0 b (st j) id with | some ob => some ob | none => obsG ops.length n0 st tc (Sl L) id) = some ob; rw [h]) (fun x hx => (hops x hx).tl htl)
      have hR' := hR.tl fun id hid => (htl id hid).symm
      exact wp_value (hv w) (hfree ν w v av none hst (fun id => by rw [ht]; simp) hL hG (hR'.later hL hndom))
    · unfold wpOp
      simp only [hoa]
      rw [hwant _ hy]
      simp only [if_true]
      refine .inl ?_
      rw [hlen] at hS
      exact hS M0 b0 ν (obsG ops.length n0 st tc (Sl L)) (domS n0 (Sl L)) w a o rfl hg (fun id ob hob => by
        unfold obsG at hob
        split at hob
        · assumption
        · cases hob) (fun id ob h => by cases h) hops hnone hndom _ _ fun v w' ν' hL hG hR => hfree ν' w' v av nob hst (fun id => by rw [ht]; simp) hL hG hR
    · unfold wpOp
      simp only [hoa]
      rw [hwant _ hy]
      simp only [if_true]
      refine .inl ?_
      rw [hlen] at hS
      obtain ⟨t1, t2, t3, t4⟩ := hr.touch hd hj hs hrdy hclS ht
      exact hS M0 b0 ν (obsG ops.length n0 st tc (Sl L)) (domS n0 (Sl L)) w a o rfl hg (fun id ob hob => by
        unfold obsG at hob
        split at hob
        · assumption
        · cases hob) (fun i ob h => by
        by_cases e : i = id
        · subst e
          simp only [beq_self_eq_true, cond_true] at h
          unfold maskB at h
          cases hvb : decide (i < n0) || b.testBit (i - n0)
          · rw [hvb] at h; cases h
          · rw [hvb] at h
            rw [t4]
            exact h
        · simp only [beq_eq_false_iff_ne.2 e, cond_false] at h
          cases h) hops hnone hndom _ _ fun v w' ν' hL hG hR => hfree ν' w' v av nob hst (fun id => by rw [ht]; simp) hL hG hR
    · unfold wpOp
      simp only [hoa]
      rw [hwant _ hy]
      simp only [if_true]
      refine .inl ?_
      obtain ⟨t1, t2, t3, t4⟩ := hr.touch hd hj hs hrdy hclS ht
      rw [hob] at t4
      obtain ⟨w', hrun, hB, hG, hkeep⟩ := hS M0 b0 ν (obsG ops.length n0 st tc (Sl L)) (domS n0 (Sl L)) w a o rfl hg t4 hops
      have e1 := hr.obsG_store hd hj hs hrdy hclS ht (ob' := ob') (by rw [hst]; exact hl')
      have e2 : domS n0 (fun i => i == j || Sl L i) = fun id => domS n0 (Sl L) id ∨ id = n0 + j := domS_step
      have := hnext ν w' undef .bad (by rw [hst]) hB (fun _ _ => rfl) (by rw [e1]; exact hG) (fun x u hx => by
        rw [e1, e2]
        exact (hkeep x u hx).dom fun _ h => .inl h) trivial
      unfold Oper.wp
      rw [hrun]
      exact this
end
theorem region_anyL {E : Env X} (hty : ∀ T ti, E.ty T = some ti → TyOk P T ti) (hfn : FnsOk P E) {ops : Array Oper} {s : St} {K : St → Option R} {r : R} (h : regionK E ops.toList true s K = some r)
    {M0 : Nat → Prop} {b0 : Nat → Prop} {w0 : World} {a : Act} {w : World} (hm : Matches M0 b0 w0 nt s a w) {Q : Exit → Act → World → Prop} (hQ : ∀ s' a' w', K s' = some r → Matches M0 b0 w0 nt s' a' w' → Q .normal a' w') : ∃ Q0 : Exit → Act → World → Prop, wpAny P .any ops Q0 ops.size (Array.replicate ops.size false) a { w with drawn := w.drawn + 1 } ∧ ∀ e a w, Q0 e a w → e = .normal ∧ Q .normal a w := by
  cases hok : drawOk E ops.toList ⟨(freeze s (consOps E ops.toList)).fr, (freeze s (consOps E ops.toList)).obs⟩
  · unfold regionK at h
    simp only [force_eq, cond_true, hok, cond_false] at h
    cases hdd : drawD ops.toList
    · rw [hdd] at h; cases h
    · rw [hdd] at h
      simp only [cond_true] at h
      have hm1 := freeze_sound (consOps E ops.toList) s hm.drew
      generalize freeze s (consOps E ops.toList) = s1 at h hm1 hok
      have hd := drawD_spec hdd
      obtain ⟨st, tc, h0, hK, hstep⟩ := runOpsS_steps (P := P) hty hfn ops.toList (befores ops.toList []) 0 [] _ h
      have hrun : RunS P ops.toList ops.toList.length s1.obs.length st tc := ⟨by rw [h0], fun j hj => by
        obtain ⟨o, b, q1, q2, q3, q4, q5⟩ := hstep j hj
        exact ⟨o, b, q1, q2, q3, fun id wr e => (q4 id wr e).1, fun id wr e k wr' hk hk' hw => by
          have := q5 id wr e k wr' hk hk' hw
          rwa [Nat.zero_add] at this⟩⟩
      refine ⟨fun e a w => e = .normal ∧ Q .normal a w, ?_, fun _ _ _ h => h⟩
      have hSl : Sl (Array.replicate ops.size false) = fun _ => false := by
        funext i
        simp only [Sl, Array.getD_eq_getD_getElem?, Array.getElem?_replicate]
        split <;> rfl
      have hunl : unl (Sl (Array.replicate ops.size false)) ops.toList.length ≤ ops.size := by
        rw [hSl]
        have : ∀ n, unl (fun _ => false) n = n := by
          intro n
          induction n with
          | zero => rfl
          | succ n ih => simp [unl, ih]
        rw [this]
        simp
      have hI := dinvS_start hrun (M0 := M0) (b0 := b0) (w0 := w0) (nt := nt) (a := a) (w := w.drew) (by rw [h0]; exact hm1)
      have := draws_any hd hrun (Q := fun e a w => e = .normal ∧ Q .normal a w) (fun s' a' w' h1 h2 => ⟨rfl, hQ s' a' w' h1 h2⟩) hK ops.size (Array.replicate ops.size false) a w.drew (by simp) hunl (by rw [hSl]; intro i hi; cases hi) (by rw [hSl]; exact hI)
      exact this
  · exact region_any0L hty hfn h hok hm hQ
theorem region_any {E : Env X} (hty : ∀ T ti, E.ty T = some ti → TyOk P T ti) (hfn : FnsOk P E) (hmix : P.follows .mixedOrders = true) {id : Nat} {ops : Array Oper} {s : St} {K : St → Option R} {r : R} (h : regionK E ops.toList true s K = some r)
    {M0 : Nat → Prop} {b0 : Nat → Prop} {w0 : World} {a : Act} {w : World} (hm : Matches M0 b0 w0 nt s a w) {Q : Exit → Act → World → Prop} (hQ : ∀ s' a' w', K s' = some r → Matches M0 b0 w0 nt s' a' w' → Q .normal a' w') : (Code.region id ops true).wp P Q a w := by
  obtain ⟨Q0, h1, h2⟩ := region_anyL hty hfn h hm hQ
  exact wp_mono (wp_region_any hmix h1) fun e a w h => by obtain ⟨rfl, h3⟩ := h2 _ _ _ h; exact h3
theorem region_sound {E : Env X} (hty : ∀ T ti, E.ty T = some ti → TyOk P T ti) (hfn : FnsOk P E) (hmix : P.follows .mixedOrders = true) {id : Nat} {ops : Array Oper} {draw : Bool} {s : St} {K : St → Option R} {r : R} (h : regionK E ops.toList draw s K = some r)
    {M0 : Nat → Prop} {b0 : Nat → Prop} {w0 : World} {a : Act} {w : World} (hm : Matches M0 b0 w0 nt s a w) {Q : Exit → Act → World → Prop} (hQ : ∀ s' a' w', K s' = some r → Matches M0 b0 w0 nt s' a' w' → Q .normal a' w') : (Code.region id ops draw).wp P Q a w := by
  cases draw
  · exact region_seq hty hfn h hm hQ
  · exact region_any hty hfn hmix h hm hQ
end Go.FK


/- A body's code: what the interpreter finds holds of the machine, the points' functions given. -/
namespace Go.FK
open Go.RowKit
variable {P : Program} {X R : Type} {nt : NT}
def loopIn (P : Program) (c : Code) (Q : Exit → Act → World → Prop) (a : Act) (w : World) : Prop :=
  ∀ (b : Frame) (k : List Item) (cs : List Frame), ∃ e a' w', Q e a' w' ∧ Arrives P (lone (b.at a (.code c :: .inLoop c :: k)) cs w) b k cs e a' w'
theorem loopIn.wp {c : Code} {Q : Exit → Act → World → Prop} {a : Act} {w : World} (h : loopIn P c Q a w) : (Code.loop c).wp P Q a w := by
  intro b k cs
  obtain ⟨e, a', w', hq, harr⟩ := h b k cs
  exact ⟨e, a', w', hq, .of_steps (.one step_loop) harr⟩
theorem loopIn_of {c : Code} {Q : Exit → Act → World → Prop} {a : Act} {w : World} (h : c.wp P (Exit.then (loopIn P c Q) Q) a w) : loopIn P c Q a w := by
  intro b k cs
  obtain ⟨e, a₁, w₁, hq, harr⟩ := h b (.inLoop c :: k) cs
  cases e with
  | normal =>
    obtain ⟨e₂, a₂, w₂, hq₂, harr₂⟩ := hq b k cs
    exact ⟨e₂, a₂, w₂, hq₂, .of_steps (Steps.trans harr (.one step_inLoop)) harr₂⟩
  | exit id => exact ⟨_, a₁, w₁, hq, .pass (x := .inLoop c) rfl (fun _ _ => .inl (by simp)) harr⟩
  | goto l => exact ⟨_, a₁, w₁, hq, .pass (x := .inLoop c) rfl (fun _ _ => .inl (by simp)) harr⟩
  | ret => exact ⟨_, a₁, w₁, hq, .pass (x := .inLoop c) rfl (fun _ _ => .inl (by simp)) harr⟩
  | panic ch => exact ⟨_, a₁, w₁, hq, .pass (x := .inLoop c) rfl (fun _ _ => .inl (by simp)) harr⟩
  | outgrown => exact ⟨_, a₁, w₁, hq, .pass (x := .inLoop c) rfl (fun _ _ => .inl (by simp)) harr⟩
def ptsOf : (bid : Nat) → Code → List Nat
  | _, .region r _ _ => [2 * r + 1]
  | bid, .seq a b => ptsOf bid a ++ ptsOf bid b
  | bid, .cond _ t e => ptsOf bid t ++ ptsOf bid e
  | _, .block id c => ptsOf id c
  | bid, .loop c => 2 * bid :: ptsOf bid c
  | bid, .scope c => ptsOf bid c
  | _, _ => []
theorem hasPt_mem (p : Nat) : ∀ (bid : Nat) (c : Code), hasPt p bid c = true ↔ p ∈ ptsOf bid c := by
  intro bid c
  induction c generalizing bid with
  | region r ops d => simp [hasPt, ptsOf]
  | seq a b iha ihb => simp [hasPt, ptsOf, iha, ihb]
  | cond x t e iht ihe => simp [hasPt, ptsOf, iht, ihe]
  | block id c ih => simp [hasPt, ptsOf, ih]
  | loop c ih => simp [hasPt, ptsOf, ih]
  | scope c ih => simp [hasPt, ptsOf, ih]
  | _ => simp [hasPt, ptsOf]
theorem hasN_mem {x : Nat} : ∀ {l : List Nat}, hasN x l = true ↔ x ∈ l
  | [] => by simp [hasN]
  | y :: ys => by simp [hasN, hasN_mem]
theorem distinct_append {l m : List Nat} (h : distinct (l ++ m) = true) : distinct l = true ∧ distinct m = true ∧ ∀ x, x ∈ l → x ∉ m := by
  induction l with
  | nil => exact ⟨rfl, h, fun x hx => by cases hx⟩
  | cons y ys ih =>
    simp only [List.cons_append, distinct, Bool.and_eq_true, Bool.not_eq_true'] at h
    obtain ⟨h1, h2, h3⟩ := ih h.2
    have hy : y ∉ ys ++ m := by
      rw [← hasN_mem]
      simp [h.1]
    simp only [List.mem_append, not_or] at hy
    refine ⟨?_, h2, fun x hx => ?_⟩
    · simp only [distinct, Bool.and_eq_true, Bool.not_eq_true']
      refine ⟨?_, h1⟩
      cases hq : hasN y ys with
      | false => rfl
      | true => exact absurd (hasN_mem.1 hq) hy.1
    · rcases List.mem_cons.1 hx with hx | hx
      · rw [hx]; exact hy.2
      · exact h3 x hx
def AtPt (P : Program) (p : Nat) : (bid : Nat) → Code → (Exit → Act → World → Prop) → Act → World → Prop
  | _, .region r ops d, Q, a, w => p = 2 * r + 1 → (Code.region r ops d).wp P Q a w
  | bid, .seq x y, Q, a, w => if hasPt p bid x = true then AtPt P p bid x (Exit.then (y.wp P Q) Q) a w else AtPt P p bid y Q a w
  | bid, .cond _ t e, Q, a, w => if hasPt p bid t = true then AtPt P p bid t Q a w else AtPt P p bid e Q a w
  | _, .block id c, Q, a, w => AtPt P p id c (Exit.inBlock id Q) a w
  | bid, .loop c, Q, a, w => if p = 2 * bid then loopIn P c Q a w else AtPt P p bid c (Exit.then (loopIn P c Q) Q) a w
  | bid, .scope c, Q, a, w => AtPt P p bid c (Exit.noGoto Q) a w
  | _, _, _, _, _ => True
section
variable {E : Env X} (hty : ∀ T ti, E.ty T = some ti → TyOk P T ti) (hfn : FnsOk P E) (hmix : P.follows .mixedOrders = true) {r : X} {M0 : Nat → Prop} {b0 : Nat → Prop} {w0 : World}
def Holds (M0 : Nat → Prop) (b0 : Nat → Prop) (w0 : World) (nt : NT) (r : X) (K : Exit → St → Option X) (Q : Exit → Act → World → Prop) : Prop :=
  ∀ e s a w, K e s = some r → Matches M0 b0 w0 nt s a w → Q e a w
theorem Holds.seq {f : St → Option X} {K : Exit → St → Option X} {Q : Exit → Act → World → Prop} {g : Act → World → Prop} (h : Holds M0 b0 w0 nt r K Q) (hf : ∀ s a w, f s = some r → Matches M0 b0 w0 nt s a w → g a w) :
    Holds M0 b0 w0 nt r (seqK f K) (Exit.then g Q) := by
  intro e s a w he hm
  cases e <;> first | exact hf s a w he hm | exact h _ s a w he hm
theorem Holds.block {id : Nat} {K : Exit → St → Option X} {Q : Exit → Act → World → Prop} (h : Holds M0 b0 w0 nt r K Q) : Holds M0 b0 w0 nt r (blockK id K) (Exit.inBlock id Q) := by
  intro e s a w he hm
  cases e with
  | exit j =>
    simp only [blockK] at he
    simp only [Exit.inBlock]
    by_cases hj : j = id
    · rw [if_pos hj]
      have : (j == id) = true := by simp [hj]
      rw [this] at he
      exact h _ s a w he hm
    · rw [if_neg hj]
      have : (j == id) = false := by simp [hj]
      rw [this] at he
      exact h _ s a w he hm
  | _ => exact h _ s a w he hm
theorem Holds.scope {K : Exit → St → Option X} {Q : Exit → Act → World → Prop} (h : Holds M0 b0 w0 nt r K Q) : Holds M0 b0 w0 nt r (scopeK K) (Exit.noGoto Q) := by
  intro e s a w he hm
  cases e with
  | goto l => simp [scopeK] at he
  | _ => exact h _ s a w he hm
def Pts (P : Program) (E : Env X) (M0 : Nat → Prop) (b0 : Nat → Prop) (w0 : World) (nt : NT) (r : X) (bid : Nat) (c : Code) (Q : Exit → Act → World → Prop) : Prop :=
  ∀ p s a w, hasPt p bid c = true → pointK E p s = some r → Matches M0 b0 w0 nt s a w → AtPt P p bid c Q a w
theorem Pts.left {bid : Nat} {x y : Code} {Q : Exit → Act → World → Prop} (h : Pts P E M0 b0 w0 nt r bid (.seq x y) Q) : Pts P E M0 b0 w0 nt r bid x (Exit.then (y.wp P Q) Q) := by
  intro p s a w hp hk hm
  have := h p s a w (by simp [hasPt, hp]) hk hm
  simpa only [AtPt, hp, if_true] using this
theorem Pts.right {bid : Nat} {x y : Code} {Q : Exit → Act → World → Prop} (hd : distinct (ptsOf bid (.seq x y)) = true) (h : Pts P E M0 b0 w0 nt r bid (.seq x y) Q) : Pts P E M0 b0 w0 nt r bid y Q := by
  intro p s a w hp hk hm
  have := h p s a w (by simp [hasPt, hp]) hk hm
  have hno : ¬ hasPt p bid x = true := by
    rw [hasPt_mem] at hp ⊢
    exact fun hx => (distinct_append hd).2.2 p hx hp
  simpa only [AtPt, if_neg hno] using this
theorem Pts.thn {bid : Nat} {x : Operand} {t e : Code} {Q : Exit → Act → World → Prop} (h : Pts P E M0 b0 w0 nt r bid (.cond x t e) Q) : Pts P E M0 b0 w0 nt r bid t Q := by
  intro p s a w hp hk hm
  have := h p s a w (by simp [hasPt, hp]) hk hm
  simpa only [AtPt, hp, if_true] using this
theorem Pts.els {bid : Nat} {x : Operand} {t e : Code} {Q : Exit → Act → World → Prop} (hd : distinct (ptsOf bid (.cond x t e)) = true) (h : Pts P E M0 b0 w0 nt r bid (.cond x t e) Q) : Pts P E M0 b0 w0 nt r bid e Q := by
  intro p s a w hp hk hm
  have := h p s a w (by simp [hasPt, hp]) hk hm
  have hno : ¬ hasPt p bid t = true := by
    rw [hasPt_mem] at hp ⊢
    exact fun hx => (distinct_append hd).2.2 p hx hp
  simpa only [AtPt, if_neg hno] using this
theorem Pts.blk {bid id : Nat} {c : Code} {Q : Exit → Act → World → Prop} (h : Pts P E M0 b0 w0 nt r bid (.block id c) Q) : Pts P E M0 b0 w0 nt r id c (Exit.inBlock id Q) := by
  intro p s a w hp hk hm
  exact h p s a w (by simpa [hasPt] using hp) hk hm
theorem Pts.head {bid : Nat} {c : Code} {Q : Exit → Act → World → Prop} (h : Pts P E M0 b0 w0 nt r bid (.loop c) Q) : ∀ s a w, pointK E (2 * bid) s = some r → Matches M0 b0 w0 nt s a w → loopIn P c Q a w := by
  intro s a w hk hm
  have := h (2 * bid) s a w (by simp [hasPt]) hk hm
  simpa only [AtPt, if_true] using this
theorem Pts.inner {bid : Nat} {c : Code} {Q : Exit → Act → World → Prop} (hd : distinct (ptsOf bid (.loop c)) = true) (h : Pts P E M0 b0 w0 nt r bid (.loop c) Q) : Pts P E M0 b0 w0 nt r bid c (Exit.then (loopIn P c Q) Q) := by
  intro p s a w hp hk hm
  have := h p s a w (by simp [hasPt, hp]) hk hm
  have hno : ¬ p = 2 * bid := by
    intro e
    rw [hasPt_mem] at hp
    simp only [ptsOf, distinct, Bool.and_eq_true, Bool.not_eq_true'] at hd
    rw [e] at hp
    rw [hasN_mem.2 hp] at hd
    cases hd.1
  simpa only [AtPt, if_neg hno] using this
theorem Pts.scp {bid : Nat} {c : Code} {Q : Exit → Act → World → Prop} (h : Pts P E M0 b0 w0 nt r bid (.scope c) Q) : Pts P E M0 b0 w0 nt r bid c (Exit.noGoto Q) := by
  intro p s a w hp hk hm
  exact h p s a w (by simpa [hasPt] using hp) hk hm
theorem distinct_inner {bid : Nat} {c : Code} (hd : distinct (ptsOf bid (.loop c)) = true) : distinct (ptsOf bid c) = true := by
  simp only [ptsOf, distinct, Bool.and_eq_true] at hd
  exact hd.2
include hty hfn hmix in
theorem codeK_sound : ∀ (c : Code) (bid : Nat) (s : St) (K : Exit → St → Option X) (Q : Exit → Act → World → Prop) (a : Act) (w : World), codeK E bid c s K = some r → distinct (ptsOf bid c) = true → Pts P E M0 b0 w0 nt r bid c Q → Holds M0 b0 w0 nt r K Q →
    Matches M0 b0 w0 nt s a w → c.wp P Q a w := by
  intro c
  induction c with
  | skip => intro bid s K Q a w h _ _ hK hm; exact wp_skip (hK _ s a w h hm)
  | region rr ops draw =>
    intro bid s K Q a w h hd hp hK hm
    simp only [codeK] at h
    split at h
    · have := hp (2 * rr + 1) s a w (by simp [hasPt]) h hm
      exact this rfl
    · exact region_sound hty hfn hmix h hm fun s' a' w' hk hm' => hK _ _ _ _ hk hm'
  | seq x y ihx ihy =>
    intro bid s K Q a w h hd hp hK hm
    have hdd := distinct_append hd
    refine wp_seq (ihx bid s _ _ a w h hdd.1 hp.left (hK.seq fun s' a' w' hk hm' => ihy bid s' K Q a' w' hk hdd.2.1 (hp.right hd) hK hm') hm)
  | cond x t e iht ihe =>
    intro bid s K Q a w h hd hp hK hm
    have hdd := distinct_append hd
    simp only [codeK] at h
    split at h
    · rename_i b hb
      obtain ⟨_, _, _, _, ν, hw, hg, hr⟩ := hm
      have hv := evA_rep hg.glM hr x
      rw [hb] at hv
      have hv := repV_bool hv
      have hm : Matches M0 b0 w0 nt s a w := ⟨‹_›, ‹_›, ‹_›, ‹_›, ν, hw, hg, hr⟩
      refine wp_cond hv ?_
      cases b
      · simp only [cond_false] at h
        exact ihe bid s K Q a w h hdd.2.1 (hp.els hd) hK hm
      · simp only [cond_true] at h
        exact iht bid s K Q a w h hdd.1 hp.thn hK hm
    · cases h
  | block id c ih =>
    intro bid s K Q a w h hd hp hK hm
    exact wp_block (ih id s _ _ a w h hd hp.blk hK.block hm)
  | loop c ih =>
    intro bid s K Q a w h hd hp hK hm
    exact (hp.head s a w h hm).wp
  | exit id => intro bid s K Q a w h _ _ hK hm; exact wp_exit (hK _ s a w h hm)
  | ret => intro bid s K Q a w h _ _ hK hm; exact wp_ret (hK _ s a w h hm)
  | scope c ih =>
    intro bid s K Q a w h hd hp hK hm
    exact wp_scope_straight (ih bid s _ _ a w h hd hp.scp hK.scope hm)
  | label l => intro bid s K Q a w h _ _ hK hm; exact wp_label (hK _ s a w h hm)
  | _ => intro bid s K Q a w h; simp [codeK] at h
include hty hfn hmix in
theorem fromK_sound {p : Nat} : ∀ (c : Code) (bid : Nat) (s : St) (K : Exit → St → Option X) (Q : Exit → Act → World → Prop) (a : Act) (w : World), fromK E p bid c s K = some r → distinct (ptsOf bid c) = true → Pts P E M0 b0 w0 nt r bid c Q → Holds M0 b0 w0 nt r K Q →
    Matches M0 b0 w0 nt s a w → AtPt P p bid c Q a w := by
  intro c
  induction c with
  | region rr ops draw =>
    intro bid s K Q a w h hd hp hK hm e
    simp only [fromK, e, BEq.rfl, cond_true] at h
    exact region_sound hty hfn hmix h hm fun s' a' w' hk hm' => hK _ _ _ _ hk hm'
  | seq x y ihx ihy =>
    intro bid s K Q a w h hd hp hK hm
    have hdd := distinct_append hd
    simp only [fromK] at h
    simp only [AtPt]
    cases hx : hasPt p bid x <;> simp only [hx, cond_true, cond_false] at h
    · simp only [Bool.false_eq_true, if_false]
      exact ihy bid s K Q a w h hdd.2.1 (hp.right hd) hK hm
    · simp only [if_true]
      exact ihx bid s _ _ a w h hdd.1 hp.left (hK.seq fun s' a' w' hk hm' => codeK_sound hty hfn hmix y bid s' K Q a' w' hk hdd.2.1 (hp.right hd) hK hm') hm
  | cond x t e iht ihe =>
    intro bid s K Q a w h hd hp hK hm
    have hdd := distinct_append hd
    simp only [fromK] at h
    simp only [AtPt]
    cases hx : hasPt p bid t <;> simp only [hx, cond_true, cond_false] at h
    · simp only [Bool.false_eq_true, if_false]
      exact ihe bid s K Q a w h hdd.2.1 (hp.els hd) hK hm
    · simp only [if_true]
      exact iht bid s K Q a w h hdd.1 hp.thn hK hm
  | block id c ih =>
    intro bid s K Q a w h hd hp hK hm
    exact ih id s _ _ a w h hd hp.blk hK.block hm
  | loop c ih =>
    intro bid s K Q a w h hd hp hK hm
    have hL : Holds M0 b0 w0 nt r (loopK E bid K) (Exit.then (loopIn P c Q) Q) := by
      intro e s' a' w' he hm'
      cases e <;> first | exact hp.head s' a' w' he hm' | exact hK _ s' a' w' he hm'
    simp only [fromK] at h
    simp only [AtPt]
    by_cases hx : p = 2 * bid
    · have : (p == 2 * bid) = true := by simp [hx]
      rw [this] at h
      rw [if_pos hx]
      exact loopIn_of (codeK_sound hty hfn hmix c bid s _ _ a w h (distinct_inner hd) (hp.inner hd) hL hm)
    · have : (p == 2 * bid) = false := by simp [hx]
      rw [this] at h
      rw [if_neg hx]
      exact ih bid s _ _ a w h (distinct_inner hd) (hp.inner hd) hL hm
  | scope c ih =>
    intro bid s K Q a w h hd hp hK hm
    exact ih bid s _ _ a w h hd hp.scp hK.scope hm
  | _ => intro bid s K Q a w _ _ _ _ _; trivial
end
end Go.FK


/- A whole function: points, results, the contract. -/
namespace Go.FK
open Go.RowKit
variable {P : Program} {X R : Type} {nt : NT} {M0 : Nat → Prop} {b0 : Nat → Prop} {w0 : World}
theorem eqPath_eq : ∀ {a b : List Nat}, eqPath a b = true → a = b
  | [], [], _ => rfl
  | a :: as, b :: bs, h => by
    simp only [eqPath, Bool.and_eq_true, beq_iff_eq] at h
    rw [h.1, eqPath_eq h.2]
theorem packObjs_spec (s : St) (io : Nat) (slots : List (Tmp × Kind)) : ∀ (os : List (TypeId × Ty × Bool)) (j : Nat) (ids : List Nat) (ds : List Dyn) (ids' : List Nat) (ds' : List Dyn), packObjs s io slots os j ids ds = some (ids', ds') →
    ∃ more dmore, ids' = ids ++ more ∧ ds' = ds ++ dmore ∧ (distinct ids = true → distinct ids' = true) ∧ (∀ es, unObjs os (dmore ++ es) = (more.map (nthD none s.obs), es)) ∧ more.length = os.length ∧ ∀ k id, more[k]? = some id → j + k < io → id = j + k
  | [], j, ids, ds, ids', ds', h => by
    simp only [packObjs, Option.some.injEq, Prod.mk.injEq] at h
    exact ⟨[], [], by simp [h.1], by simp [h.2], fun hd => by rw [← h.1]; exact hd, fun es => by simp [unObjs], rfl, fun k id hk => by simp at hk⟩
  | (e, t, bx) :: os, j, ids, ds, ids', ds', h => by
    simp only [packObjs] at h
    split at h
    · cases h
    rename_i id hid
    split at h
    · cases h
    rename_i hno
    split at h
    · cases h
    rename_i ob hob
    split at h
    case isFalse => cases h
    rename_i hc
    simp only [Bool.and_eq_true, decide_eq_true_eq] at hc
    have hio : ∀ more : List Nat, (∀ k id', more[k]? = some id' → j + 1 + k < io → id' = j + 1 + k) → ∀ k id', (id :: more)[k]? = some id' → j + k < io → id' = j + k := by
      intro more h6 k id' hk hlt
      cases k with
      | zero =>
        simp only [List.getElem?_cons_zero, Option.some.injEq] at hk
        subst hk
        rw [show decide (j < io) = true by simpa using hlt] at hid
        simpa using hid.symm
      | succ k =>
        have := h6 k id' (by simpa using hk) (by omega)
        omega
    have hdis : distinct ids = true → distinct (ids ++ [id]) = true := by
      intro hd
      have hn : id ∉ ids := fun hm => hno (hasN_mem.2 hm)
      clear hno h hid hob
      induction ids with
      | nil => rfl
      | cons y ys ih =>
        simp only [distinct, Bool.and_eq_true, Bool.not_eq_true'] at hd
        simp only [List.cons_append, distinct, Bool.and_eq_true, Bool.not_eq_true']
        simp only [List.mem_cons, not_or] at hn
        refine ⟨?_, ih hd.2 hn.2⟩
        cases hx : hasN y (ys ++ [id]) with
        | false => rfl
        | true =>
          have := hasN_mem.1 hx
          simp only [List.mem_append, List.mem_singleton] at this
          rcases this with h | h
          · rw [hasN_mem.2 h] at hd; cases hd.1
          · exact absurd h.symm hn.1
    obtain ⟨he, ht⟩ := hc
    obtain ⟨oe, ot, ol⟩ := ob
    simp only at he ht
    subst he ht
    split at h
    · rename_i hbx
      subst hbx
      cases ol with
      | nil => cases h
      | cons x xs =>
        cases xs with
        | cons y ys => cases h
        | nil =>
          obtain ⟨more, dmore, h1, h2, h3, h4, h5, h6⟩ := packObjs_spec s io slots os _ _ _ _ _ h
          exact ⟨id :: more, (⟨ot, x⟩ : Dyn) :: dmore, by simp [h1], by simp [h2], fun hd => h3 (hdis hd), fun es => by simp [unObjs, h4, hob], by simp [h5], hio more h6⟩
    · rename_i hbx
      have hbx : bx = false := by simpa using hbx
      subst hbx
      obtain ⟨more, dmore, h1, h2, h3, h4, h5, h6⟩ := packObjs_spec s io slots os _ _ _ _ _ h
      exact ⟨id :: more, (⟨Ty.list ot, ol⟩ : Dyn) :: dmore, by simp [h1], by simp [h2], fun hd => h3 (hdis hd), fun es => by simp [unObjs, h4, hob], by simp [h5], hio more h6⟩
theorem distinct_get : ∀ {l : List Nat}, distinct l = true → ∀ (i j a : Nat), l[i]? = some a → l[j]? = some a → i = j
  | y :: ys, h, i, j, a, hi, hj => by
    simp only [distinct, Bool.and_eq_true, Bool.not_eq_true'] at h
    have hno : y ∉ ys := fun hm => by rw [hasN_mem.2 hm] at h; cases h.1
    cases i with
    | zero =>
      cases j with
      | zero => rfl
      | succ j =>
        simp at hi hj
        subst hi
        exact absurd (List.mem_of_getElem? hj) hno
    | succ i =>
      cases j with
      | zero =>
        simp at hi hj
        subst hj
        exact absurd (List.mem_of_getElem? hi) hno
      | succ j =>
        have := distinct_get h.2 i j a (by simpa using hi) (by simpa using hj)
        omega
theorem nthD_map_get {α β : Type} (d : α) (e : β) (f : α → β) : ∀ (l : List α) (j : Nat) (a : α), l[j]? = some a → nthD e (l.map f) j = f a
  | _ :: _, 0, a, h => by simp at h; subst h; rfl
  | x :: xs, j + 1, a, h => nthD_map_get d e f xs j a (by simpa using h)
theorem unSlots_rep {s : St} {a : Act} {w : World} {ν : Nat → Value} (hg : Good M0 b0 ν (obF s.obs) w) (hr : ∀ t, RepA (Msum M0 ν (obF s.obs)) ν (· < s.obs.length) (obF s.obs) w (nthD .bad s.fr t) (a.tmps.getD t undef)) {ids : List Nat}
    {M' : Nat → Prop} {ν' : Nat → Value} {obs' : List (Option Ob)} (hM : ∀ b, M' b → Msum M0 ν (obF s.obs) b) (hν : ∀ j id, ids[j]? = some id → ν' j = ν id) (hobs : ∀ j id, ids[j]? = some id → obF obs' j = obF s.obs id) (hlen : obs'.length = ids.length) :
    ∀ (slots : List (Tmp × Kind)) (es : List Dyn) (fr0 : List AV), packSlots s ids slots = some es → fr0.length ≤ a.tmps.size → (∀ t, RepA M' ν' (· < obs'.length) (obF obs') w (nthD .bad fr0 t) (a.tmps.getD t undef)) →
      (unSlots fr0 slots es).length = fr0.length ∧ ∀ t, RepA M' ν' (· < obs'.length) (obF obs') w (nthD .bad (unSlots fr0 slots es) t) (a.tmps.getD t undef)
  | [], es, fr0, h, hl, h0 => by simpa [unSlots] using h0
  | (u, k) :: ks, es, fr0, h, hl, h0 => by
    have step : ∀ av, RepA M' ν' (· < obs'.length) (obF obs') w av (a.tmps.getD u undef) → ∀ t, RepA M' ν' (· < obs'.length) (obF obs') w (nthD .bad (setN av fr0 u) t) (a.tmps.getD t undef) := by
      intro av hav t
      rw [nthD_setN]
      split
      · rename_i e
        rw [← e.1]
        exact hav
      · exact h0 t
    have hru := hr u
    simp only [packSlots] at h
    split at h
    · rename_i ty
      split at h
      · rename_i d ds hd hds
        simp only [Option.some.injEq] at h
        subst h
        have := toDyn_rep hd hru
        have := unSlots_rep hg hr hM hν hobs hlen ks ds (setN (.val d.1 d.2) fr0 u) hds (by rw [length_setN]; exact hl) (step _ (RepV.next (Agree.refl _ _) (fun b _ hb => hM b hb) this))
        simpa [unSlots, length_setN] using this
      · cases h
    · rename_i j id hav
      split at h
      · rename_i hid
        rw [hav] at hru
        have hj : j < obs'.length := by
          rw [hlen]
          exact (List.getElem?_eq_some_iff.1 hid).1
        have := unSlots_rep hg hr hM hν hobs hlen ks es (setN (.own j) fr0 u) h (by rw [length_setN]; exact hl) (step _ ⟨hj, by rw [hν j id hid]; exact hru.2⟩)
        simpa [unSlots, length_setN] using this
      · cases h
    · rename_i j path id path' hav
      split at h
      · rename_i hid
        simp only [Bool.and_eq_true, decide_eq_true_eq] at hid
        rw [hav] at hru
        have hj : j < obs'.length := by
          rw [hlen]
          exact (List.getElem?_eq_some_iff.1 hid.1).1
        have hp := eqPath_eq hid.2
        subst hp
        have := unSlots_rep hg hr hM hν hobs hlen ks es (setN (.ptr j 0 path) fr0 u) h (by rw [length_setN]; exact hl) (step _ ⟨hj, fun ob hob => by
          rw [hobs j id hid.1] at hob
          rw [hν j id hid.1]
          exact hru.2 ob hob⟩)
        simpa [unSlots, length_setN] using this
      · cases h
    · rename_i j id lo n hav
      split at h
      · rename_i hid
        split at h
        · rename_i ds hds
          simp only [Option.some.injEq] at h
          subst h
          rw [hav] at hru
          have hj : j < obs'.length := by
            rw [hlen]
            exact (List.getElem?_eq_some_iff.1 hid).1
          have := unSlots_rep hg hr hM hν hobs hlen ks ds (setN (.win j lo n) fr0 u) hds (by rw [length_setN]; exact hl) (step _ ⟨hj, fun ob hob => by
            rw [hobs j id hid] at hob
            rw [hν j id hid]
            exact hru.2 ob hob⟩)
          simpa [unSlots, length_setN] using this
        · cases h
      · cases h
    · rename_i f g hav
      split at h
      · rename_i e
        subst e
        rw [hav] at hru
        have := unSlots_rep hg hr hM hν hobs hlen ks es (setN (.fn f) fr0 u) h (by rw [length_setN]; exact hl) (step _ hru)
        simpa [unSlots, length_setN] using this
      · cases h
    · rename_i f j g id hav
      split at h
      · rename_i hc
        obtain ⟨rfl, hid⟩ := hc
        rw [hav] at hru
        have hj : j < obs'.length := by
          rw [hlen]
          exact (List.getElem?_eq_some_iff.1 hid).1
        have := unSlots_rep hg hr hM hν hobs hlen ks es (setN (.clo f j) fr0 u) h (by rw [length_setN]; exact hl) (step _ ⟨hj, fun ob hob => by
          rw [hobs j id hid] at hob
          rw [hν j id hid]
          exact hru.2 ob hob⟩)
        simpa [unSlots, length_setN] using this
      · cases h
    · cases h
theorem length_blank : ∀ n, (blank n).length = n
  | 0 => rfl
  | n + 1 => by simp [blank, length_blank n]
theorem nthD_blank : ∀ n t, nthD AV.bad (blank n) t = .bad
  | 0, _ => rfl
  | _ + 1, 0 => rfl
  | n + 1, t + 1 => nthD_blank n t
theorem ownNil_matches {objs : List (TypeId × Ty × Bool)} {a : Act} {w : World} : ∀ (ks : List (Tmp × Kind)) (s : St), Matches M0 b0 w0 nt s a w → Matches M0 b0 w0 nt (ownNil objs s ks) a w
  | [], _, h => h
  | (_, .val _) :: ks, s, h => ownNil_matches ks s h
  | (_, .ptr _ _) :: ks, s, h => ownNil_matches ks s h
  | (_, .win _) :: ks, s, h => ownNil_matches ks s h
  | (_, .fn _) :: ks, s, h => ownNil_matches ks s h
  | (_, .clo _ _) :: ks, s, h => ownNil_matches ks s h
  | (t, .own j) :: ks, s, h => by
    unfold ownNil
    split
    · rename_i e ty hfr hob
      split
      · rename_i hok
        simp only [Bool.and_eq_true, decide_eq_true_eq] at hok
        refine ownNil_matches ks _ ?_
        obtain ⟨h1, h2, h3, hn3, ν, hw, hg, hr⟩ := h
        have hnone : obF s.obs s.obs.length = none := by
          cases hx : obF s.obs s.obs.length with
          | none => rfl
          | some ob => exact absurd (obF_lt hx) (Nat.lt_irrefl _)
        obtain ⟨hL, hG⟩ := hg.add hnone (Below.refl _ w) ⟨e, ty, []⟩ (.slice none 0 0) (fun b hb => by cases hb) (okO_of hok.1) hok.2 [] (.of hok.1 (World.ownsRow_nil _ _ _ _)) (RepRow.nil _ _ _)
        have hdom : (fun id => id < s.obs.length ∨ id = s.obs.length) = (· < (s.obs ++ [some (⟨e, ty, []⟩ : Ob)]).length) := by
          funext id
          apply propext
          simp
          omega
        have hF := obF_snoc s.obs (some (⟨e, ty, []⟩ : Ob))
        refine ⟨h1, h2, by simp [length_setN, h3], hn3, _, hw.next (by simp) (fun k hk => hL.nu k (Nat.ne_of_lt hk)), by rw [hF]; exact hG, fun u => ?_⟩
        show RepA _ _ _ _ _ (nthD .bad (setN (.own s.obs.length) s.fr t) u) _
        rw [hF, ← hdom, nthD_setN]
        split
        · rename_i he
          rw [← he.1]
          have := hr t
          rw [hfr] at this
          have hv : a.tmps.getD t undef = .slice none 0 0 := this
          exact ⟨.inr rfl, by simp [hv]⟩
        · exact RepA.later (dom := (· < s.obs.length)) hL (Nat.lt_irrefl _) (hr u)
      · exact ownNil_matches ks s h
    · exact ownNil_matches ks s h
theorem unpack_matches0 {s : St} {a : Act} {w : World} (hm : Matches M0 b0 w0 nt s a w) {sig : PSig} (hsig : nt.ro.length ≤ sig.io ∧ sig.io ≤ sig.objs.length) {ds : List Dyn} (h : pack0 s sig = some ds) : Matches M0 b0 w0 nt (unpack sig nt.n ds) a w := by
  obtain ⟨h1, h2, h3, hn3, ν, hw, hg, hr⟩ := hm
  unfold pack0 at h
  split at h
  · cases h
  rename_i ids dso hpo
  split at h
  · cases h
  rename_i es hps
  simp only [Option.some.injEq] at h
  subst h
  obtain ⟨more, dmore, e1, e2, e3, e4, e5, e6⟩ := packObjs_spec s sig.io sig.slots sig.objs 0 [] [] ids dso hpo
  simp only [List.nil_append] at e1 e2
  subst e1 e2
  have hdis := e3 rfl
  have hobs : ∀ j id, ids[j]? = some id → obF (ids.map (nthD none s.obs)) j = obF s.obs id := fun j id hj => nthD_map_get 0 none _ ids j id hj
  let ν' : Nat → Value := fun j => ν (ids.getD j 0)
  have hν : ∀ j id, ids[j]? = some id → ν' j = ν id := fun j id hj => by simp [ν', hj]
  have hget : ∀ j ob, obF (ids.map (nthD none s.obs)) j = some ob → ∃ id, ids[j]? = some id ∧ obF s.obs id = some ob := by
    intro j ob hj
    have hlt := obF_lt hj
    simp only [List.length_map] at hlt
    refine ⟨ids[j], by simp [hlt], ?_⟩
    rw [← hobs j ids[j] (by simp [hlt])]
    exact hj
  have hM : ∀ b, Msum M0 ν' (obF (ids.map (nthD none s.obs))) b → Msum M0 ν (obF s.obs) b := by
    rintro b (hb | ⟨j, ob, hj, hb⟩)
    · exact .inl hb
    · obtain ⟨id, k1, k2⟩ := hget j ob hj
      exact .inr ⟨id, ob, k2, by rw [← hν j id k1]; exact hb⟩
  have hG : Good M0 b0 ν' (obF (ids.map (nthD none s.obs))) w := by
    refine ⟨hg.m0, hg.gl, hg.hb, fun j ob hj => ?_, fun i j obi obj hi hj hij => ?_⟩
    · obtain ⟨id, k1, k2⟩ := hget j ob hj
      obtain ⟨q1, q2, xs, q3, q4⟩ := hg.ob id ob k2
      rw [hν j id k1]
      exact ⟨q1, q2, xs, q3, q4.next (Agree.refl _ _) (fun b _ hb => hM b hb)⟩
    · obtain ⟨id, k1, k2⟩ := hget i obi hi
      obtain ⟨id', k3, k4⟩ := hget j obj hj
      rw [hν i id k1, hν j id' k3]
      refine hg.ne id id' obi obj k2 k4 fun e => hij ?_
      subst e
      exact distinct_get hdis i j id k1 k3
  have hU : unpack sig nt.n (dso ++ es) = ⟨unSlots (blank nt.n) sig.slots es, ids.map (nthD none s.obs)⟩ := by
    simp only [unpack, e4]
  rw [hU]
  have := unSlots_rep hg hr hM hν hobs (by simp) sig.slots es (blank nt.n) hps (by rw [length_blank, hn3]; exact Nat.le_refl _) (fun t => by rw [nthD_blank]; trivial)
  refine ⟨h1, h2, by simp only [this.1, length_blank, hn3], hn3, ν', fun j v hj => ?_, hG, this.2⟩
  have hjl : j < nt.ro.length := (List.getElem?_eq_some_iff.1 hj).1
  have hjn : j < ids.length := by omega
  have hid : ids[j]? = some ids[j] := by simp [hjn]
  have := e6 j ids[j] hid (by omega)
  rw [Nat.zero_add] at this
  rw [this] at hid
  exact ⟨by simpa using hjn, by rw [hν j j hid]; exact (hw j v hj).2⟩
theorem unpack_matches {s : St} {a : Act} {w : World} (hm : Matches M0 b0 w0 nt s a w) {sig : PSig} (hsig : nt.ro.length ≤ sig.io ∧ sig.io ≤ sig.objs.length) {ds : List Dyn} (h : pack s sig = some ds) : Matches M0 b0 w0 nt (unpack sig nt.n ds) a w :=
  unpack_matches0 (freeze_sound _ _ (ownNil_matches _ _ hm)) hsig h
theorem repDs_get {M : Nat → Prop} {w : World} : ∀ {ds : List Dyn} {vs : List Value}, RepDs M w ds vs → ds.length = vs.length ∧ ∀ (i : Nat) (d : Dyn), ds[i]? = some d → ∃ v, vs[i]? = some v ∧ RepV M w d.1 d.2 v
  | [], [], _ => ⟨rfl, fun i d h => by simp at h⟩
  | d :: ds, v :: vs, h => by
    obtain ⟨h1, h2⟩ := repDs_get h.2
    refine ⟨by simp [h1], fun i e hi => ?_⟩
    cases i with
    | zero => simp at hi; subst hi; exact ⟨v, rfl, h.1⟩
    | succ i => obtain ⟨u, k1, k2⟩ := h2 i e (by simpa using hi); exact ⟨u, by simpa using k1, k2⟩
theorem avOf_rep {M : Nat → Prop} {ν : Nat → Value} {dom : Nat → Prop} {obs : Obs} {w : World} {d : Dyn} {v : Value} (h : RepV M w d.1 d.2 v) : RepA M ν dom obs w (avOf d) v := by
  obtain ⟨t, x⟩ := d
  cases t with
  | fnc f =>
    obtain ⟨_, cs, h1, h2⟩ := h
    have h1' : cs = [fV f] := h1
    subst h1'
    exact h2
  | _ => exact h
theorem entry_matches {nt : Nat} {M : Nat → Prop} {w : World} {ds : List Dyn} {vs : List Value} (hM : ∀ b, M b → b < w.heap.size) (hgl : Gl M w) (h : RepDs M w ds vs) (hn : ds.length ≤ nt) :
    Matches M (w.heap.size ≤ ·) w ⟨nt, [], []⟩ (entry nt ds) { tmps := vs.toArray ++ Array.replicate (nt - vs.toArray.size) undef, defers := [] } w := by
  obtain ⟨hl, hget⟩ := repDs_get h
  have hsz : vs.toArray.size = vs.length := by simp
  refine ⟨rfl, Beyond.refl _ _, by simp [entry, length_blank, hl], by simp; omega, fun _ => undef, fun j v hj => by simp at hj, ⟨fun b hb hle => absurd (hM b hb) (by omega), hgl.next (Nat.le_refl _) (fun _ _ _ => rfl) (fun b hb h => h.elim id fun h => absurd hb (by omega)), fun b h => h, fun id ob ho => by simp [obF, entry, nthD] at ho, fun i j obi obj hi => by simp [obF, entry, nthD] at hi⟩, fun t => ?_⟩
  by_cases ht : t < ds.length
  · obtain ⟨v, h1, h2⟩ := hget t ds[t] (by simp [ht])
    have e1 : nthD AV.bad (entry nt ds).fr t = avOf ds[t] := by
      simp only [entry]
      rw [nthD_eq, List.getD_eq_getElem?_getD, List.getElem?_append_left (by simpa using ht)]
      simp [ht]
    have e2 : ({ tmps := vs.toArray ++ Array.replicate (nt - vs.toArray.size) undef, defers := [] } : Act).tmps.getD t undef = v := by
      rw [Array.getD_eq_getD_getElem?, Array.getElem?_append_left (by simp; omega)]
      simp [h1]
    rw [e1, e2]
    refine avOf_rep ?_
    refine RepV.next (Agree.refl _ _) (fun b _ hb => ?_) h2
    rcases hb with hb | ⟨id, ob, ho, _⟩
    · exact hb
    · simp [obF, entry, nthD] at ho
  · have e1 : nthD AV.bad (entry nt ds).fr t = .bad := by
      simp only [entry]
      rw [nthD_eq, List.getD_eq_getElem?_getD, List.getElem?_append_right (by simpa using ht)]
      have := nthD_blank (nt - ds.length) (t - ds.length)
      rw [nthD_eq, List.getD_eq_getElem?_getD] at this
      simpa using this
    rw [e1]
    trivial
theorem toDynO_rep {s : St} {w : World} {ν : Nat → Value} (hg : Good M0 b0 ν (obF s.obs) w) {M' : Nat → Prop} (hM : ∀ b, M' b → Msum M0 ν (obF s.obs) b) {av : AV} {v : Value} {d : Dyn} (h : toDynO s av = some d)
    (hown : ∀ id ob, av = .own id → obF s.obs id = some ob → ∀ b, (ν id).ownBlock = some b → ¬ M' b) (hr : RepA (Msum M0 ν (obF s.obs)) ν (· < s.obs.length) (obF s.obs) w av v) : RepV M' w d.1 d.2 v := by
  unfold toDynO at h
  split at h
  · simp only [Option.some.injEq] at h
    subst h
    exact RepV.next (Agree.refl _ _) (fun b _ hb => hM b hb) hr
  · rename_i id
    split at h
    · rename_i ob hob
      cases hok : ob.t.ok false <;> rw [hok] at h
      · cases h
      simp only [cond_true, Option.some.injEq] at h
      subst h
      obtain ⟨_, hv⟩ := hr
      subst hv
      obtain ⟨q1, q2, xs, q3, q4⟩ := hg.ob id ob hob
      have q3 := q3.row hok
      exact ⟨by simpa [Ty.ok] using hok, [ν id], RepRow.list q3.1 (q4.next (Agree.refl _ _) (fun b _ hb => hM b hb)) (fun b hb => hown id ob rfl hob b hb), by simp [ofCells, Ty.isSt]⟩
    · cases h
  · cases h
theorem results_rep {tyof : TypeId → Option TI} (hty : ∀ T ti, tyof T = some ti → TyOk P T ti) {s : St} {a : Act} {w : World} {ν : Nat → Value} (hg : Good M0 b0 ν (obF s.obs) w)
    (hr : ∀ t, RepA (Msum M0 ν (obF s.obs)) ν (· < s.obs.length) (obF s.obs) w (nthD .bad s.fr t) (a.tmps.getD t undef)) {M' : Nat → Prop} (hM : ∀ b, M' b → Msum M0 ν (obF s.obs) b)
    (f : ResultVar → Sem Value) (hf : ∀ u, f (.tmp u) = pure (a.tmps.getD u undef)) (hc : ∀ p t, f (.cell p t) = (do loadVar t (← asAddr (a.tmps.getD p undef)))) :
    ∀ (ts : List Ty) (rv : List ResultVar) (ds : List Dyn), (∀ u id ob, .tmp u ∈ rv → nthD .bad s.fr u = .own id → obF s.obs id = some ob → ∀ b, (ν id).ownBlock = some b → ¬ M' b) →
      resultsK tyof s ts rv = some ds → ∃ us, (rv.mapM f).run P w = .ok us w ∧ RepDs M' w ds us
  | [], [], ds, _, h => by simp [resultsK] at h; subst h; exact ⟨[], by simp, trivial⟩
  | t :: ts, .tmp u :: rs, ds, hown, h => by
    simp only [resultsK] at h
    split at h
    · rename_i d ds' hd hds
      simp only [Option.some.injEq] at h
      subst h
      obtain ⟨us, h1, h2⟩ := results_rep hty hg hr hM f hf hc ts rs ds' (fun u id ob hu => hown u id ob (by simp [hu])) hds
      refine ⟨a.tmps.getD u undef :: us, by simp [List.mapM_cons, hf, h1], ?_, h2⟩
      have hru := hr u
      split at hd
      · rename_i e
        rw [e] at hru
        have := toDyn_rep hd hru
        exact RepV.next (Agree.refl _ _) (fun b _ hb => hM b hb) this
      · exact toDynO_rep hg hM hd (fun id ob e hob => hown u id ob (by simp) e hob) hru
    · cases h
  | t :: ts, .cell p T :: rs, ds, hown, h => by
    simp only [resultsK] at h
    split at h
    · rename_i id hp
      split at h
      · rename_i ob hob
        split at h
        · rename_i x hl
          split at h
          · rename_i hT
            split at h
            · rename_i ds' hds
              simp only [Option.some.injEq] at h
              subst h
              obtain ⟨us, h1, h2⟩ := results_rep hty hg hr hM f hf hc ts rs ds' (fun u id ob hu => hown u id ob (by simp [hu])) hds
              obtain ⟨ti, hti, htd⟩ := isTy_ok hT
              have hru := hr p
              rw [hp] at hru
              obtain ⟨hix, g, n, c, hν, hv⟩ := hru.2 ob hob
              have hgp : getP [] ob.t (nthD ob.t.zero ob.l 0) = some ⟨ob.t, x⟩ := by simp [getP, hl, nthD]
              obtain ⟨k1, cs, k2, k3⟩ := ptr_cells hg hob hix hgp (by rw [show (⟨ob.t, x⟩ : Dyn).1 = ob.t from rfl, ← htd]; exact (hty _ ti hti).1) hν
              have htok := hty T ti hti
              obtain ⟨oe, ot, ol⟩ := ob
              simp only at htd k1 k2 k3 hv hl
              subst htd
              have := run_loadVar_rep htok k2 _ k3
              refine ⟨ofCells ti.t cs :: us, ?_, RepV.next (Agree.refl _ _) (fun b _ hb => hM b hb) ⟨k1, cs, k2, rfl⟩, h2⟩
              rw [List.mapM_cons, hc, hv]
              have e0 : 0 * ti.t.sz + offP [] ti.t = 0 := by simp [offP]
              rw [e0] at this ⊢
              simp [asAddr, this, h1]
            · cases h
          · cases h
        · cases h
      · cases h
    · cases h
  | [], _ :: _, _, _, h => by simp [resultsK] at h
  | _ :: _, [], _, _, h => by simp [resultsK] at h
theorem results_tuple {fn : Func} {tmps : Array Value} {w : World} {us : List Value} (h : ∀ f : ResultVar → Sem Value, (∀ u, f (.tmp u) = pure (tmps.getD u undef)) → (∀ p t, f (.cell p t) = (do loadVar t (← asAddr (tmps.getD p undef)))) → (fn.results.toList.mapM f).run P w = .ok us w) :
    (results fn tmps).run P w = .ok (tupleOf us) w := by
  unfold results
  rw [show fn.results = fn.results.toList.toArray by simp, List.mapM_toArray]
  simp only [Sem.run_bind, Sem.run_map]
  rw [h _ (fun u => rfl) (fun p t => rfl)]
  match us with
  | [] => simp [tupleOf]
  | [v] => simp [tupleOf]
  | _ :: _ :: _ => simp [tupleOf]
end Go.FK


/- A function's contract, from its equations. -/
namespace Go.FK
open Go.RowKit
variable {P : Program}
def lookT : List (TypeId × TI) → TypeId → Option TI
  | [], _ => none
  | (T, ti) :: l, U => bif U == T then some ti else lookT l U
def fnT : List Ty → Option FuncId
  | [] => none
  | .fnc m :: _ => some m
  | _ :: l => fnT l
def eqO : Option Nat → Option Nat → Bool
  | none, none => true
  | some a, some b => a == b
  | _, _ => false
def lookF : List (FuncId × FS) → FuncId → Option FuncId → Option FS
  | [], _, _ => none
  | (f, fs) :: l, g, m => bif g == f && eqO (fnT fs.ps) m then some fs else lookF l g m
structure Pt (X : Type) where
  p : Nat
  sig : PSig
  f : Nat → TD sig.tys → Option X
def lookP {X : Type} (k : Nat) : List (Pt X) → Nat → Option ((s : PSig) × (TD s.tys → Option X))
  | [], _ => none
  | q :: l, p => bif p == q.p then some ⟨q.sig, q.f k⟩ else lookP k l p
def lookW : List (FuncId × FW) → FuncId → Option FW
  | [], _ => none
  | (f, fs) :: l, g => bif g == f then some fs else lookW l g
def lookG : List (FuncId × FG) → FuncId → Option FG
  | [], _ => none
  | (f, fs) :: l, g => bif g == f then some fs else lookG l g
def mkE {X : Type} (tys : List (TypeId × TI)) (fns : Nat → List (FuncId × FS)) (fgs : Nat → List (FuncId × FG)) (fws : Nat → List (FuncId × FW)) (pts : List (Pt X)) (k : Nat) : Env X := ⟨lookT tys, lookF (fns k), lookG (fgs k), lookW (fws k), lookP k pts⟩
def tysB (P : Program) : List (TypeId × TI) → Bool
  | [] => true
  | (T, ti) :: l => tyB P T ti && tysB P l
theorem tysB_ok : ∀ {l : List (TypeId × TI)}, tysB P l = true → ∀ T ti, lookT l T = some ti → TyOk P T ti
  | [], _, T, ti, h => by cases h
  | (U, u) :: l, hb, T, ti, h => by
    simp only [tysB, Bool.and_eq_true] at hb
    simp only [lookT] at h
    cases he : T == U
    · rw [he] at h
      exact tysB_ok hb.2 T ti h
    · rw [he] at h
      simp only [cond_true, Option.some.injEq] at h
      subst h
      rw [show T = U by simpa using he]
      exact tyB_ok hb.1
def AllF (P : Program) : List (FuncId × FS) → Prop
  | [] => True
  | (f, fs) :: l => Contract P f fs ∧ AllF P l
theorem lookF_ok : ∀ {l : List (FuncId × FS)}, AllF P l → ∀ f m fs, lookF l f m = some fs → Contract P f fs
  | [], _, f, m, fs, h => by cases h
  | (g, gs) :: l, hb, f, m, fs, h => by
    simp only [lookF] at h
    cases he : (f == g && eqO (fnT gs.ps) m)
    · rw [he] at h
      exact lookF_ok hb.2 f m fs h
    · rw [he] at h
      simp only [cond_true, Option.some.injEq] at h
      subst h
      simp only [Bool.and_eq_true, beq_iff_eq] at he
      rw [he.1]
      exact hb.1
def AllG (P : Program) : List (FuncId × FG) → Prop
  | [] => True
  | (f, fs) :: l => ContractG P f fs ∧ AllG P l
theorem lookG_ok : ∀ {l : List (FuncId × FG)}, AllG P l → ∀ f fs, lookG l f = some fs → ContractG P f fs
  | [], _, f, fs, h => by cases h
  | (g, gs) :: l, hb, f, fs, h => by
    simp only [lookG] at h
    cases he : f == g
    · rw [he] at h
      exact lookG_ok hb.2 f fs h
    · rw [he] at h
      simp only [cond_true, Option.some.injEq] at h
      subst h
      rw [show f = g by simpa using he]
      exact hb.1
def AllW (P : Program) : List (FuncId × FW) → Prop
  | [] => True
  | (f, fs) :: l => ContractW P f fs ∧ AllW P l
theorem lookW_ok : ∀ {l : List (FuncId × FW)}, AllW P l → ∀ f fs, lookW l f = some fs → ContractW P f fs
  | [], _, f, fs, h => by cases h
  | (g, gs) :: l, hb, f, fs, h => by
    simp only [lookW] at h
    cases he : f == g
    · rw [he] at h
      exact lookW_ok hb.2 f fs h
    · rw [he] at h
      simp only [cond_true, Option.some.injEq] at h
      subst h
      rw [show f = g by simpa using he]
      exact hb.1
def AllK (P : Program) (a : List (FuncId × FS)) (b : List (FuncId × FG)) (c : List (FuncId × FW)) : Prop := AllF P a ∧ AllG P b ∧ AllW P c
def PtsOk {X : Type} (E : Nat → Env X) (io n : Nat) (endf : Exit → St → Option X) (c : Code) : List (Pt X) → Prop
  | [] => True
  | q :: l => ((decide (io ≤ q.sig.io) && decide (q.sig.io ≤ q.sig.objs.length)) = true ∧ (∀ x, q.f 0 x = none) ∧ ∀ k x, fromK (E k) q.p 0 c (unpack q.sig n (encT q.sig.tys x)) endf = q.f (k + 1) x) ∧ PtsOk E io n endf c l
theorem lookP_ok {X : Type} {E : Nat → Env X} {io n : Nat} {endf : Exit → St → Option X} {c : Code} : ∀ {l : List (Pt X)}, PtsOk E io n endf c l → ∀ k p sig g, lookP k l p = some ⟨sig, g⟩ →
    (io ≤ sig.io ∧ sig.io ≤ sig.objs.length) ∧ ∀ x, (k = 0 → g x = none) ∧ ∀ j, k = j + 1 → fromK (E j) p 0 c (unpack sig n (encT sig.tys x)) endf = g x
  | [], _, k, p, sig, g, h => by cases h
  | q :: l, hb, k, p, sig, g, h => by
    simp only [lookP] at h
    cases he : p == q.p
    · rw [he] at h
      exact lookP_ok hb.2 k p sig g h
    · rw [he] at h
      simp only [cond_true, Option.some.injEq] at h
      have hp : p = q.p := by simpa using he
      subst hp
      cases h
      have hs := hb.1.1
      simp only [Bool.and_eq_true, decide_eq_true_eq] at hs
      exact ⟨hs, fun x => ⟨fun h0 => by rw [h0]; exact hb.1.2.1 x, fun j hj => by rw [hj]; exact hb.1.2.2 j x⟩⟩
structure FnOk (P : Program) (f : FuncId) (n : Nat) (rv : List ResultVar) (c : Code) (np : Nat) : Prop where
  ok : ∃ fn, P.funcs[f]? = some fn ∧ fn.body = some c ∧ fn.ntmps = n ∧ fn.results.toList = rv ∧ (fn.name == "runtime.NumGoroutine") = false
  pts : distinct (ptsOf 0 c) = true
  np : np ≤ n
section
variable {f : FuncId} {n : Nat} {rv : List ResultVar} {c : Code} {tys : List (TypeId × TI)} {fns : Nat → List (FuncId × FS)} {fgs : Nat → List (FuncId × FG)} {fws : Nat → List (FuncId × FW)}
def QR {X : Type} (endf : Exit → St → Option X) (M0 : Nat → Prop) (b0 : Nat → Prop) (w0 : World) (nt : NT) (r : X) : Exit → Act → World → Prop :=
  fun e a w => ∃ s, endf e s = some r ∧ Matches M0 b0 w0 nt s a w
theorem points_sound {X : Type} {pts : List (Pt X)} {endf : Exit → St → Option X} {ro : List Value} {df : List Deferred} (hmix : P.follows .mixedOrders = true ∧ ArrsOk P) (hty : tysB P tys = true) (hd : distinct (ptsOf 0 c) = true) (hpt : PtsOk (mkE tys fns fgs fws pts) ro.length n endf c pts) {M0 : Nat → Prop} {b0 : Nat → Prop} {w0 : World} {r : X} :
    ∀ k, (∀ j, j < k → AllK P (fns j) (fgs j) (fws j)) → Pts P (mkE tys fns fgs fws pts k) M0 b0 w0 ⟨n, ro, df⟩ r 0 c (QR endf M0 b0 w0 ⟨n, ro, df⟩ r)
  | 0, _ => by
    intro p s a w _ hk _
    unfold pointK at hk
    split at hk
    · cases hk
    · rename_i sig g hp
      split at hk
      · cases hk
      · split at hk
        · cases hk
        · rename_i x hx
          rw [((lookP_ok hpt 0 p sig g hp).2 x).1 rfl] at hk
          cases hk
  | k + 1, hall => by
    intro p s a w _ hk hm
    unfold pointK at hk
    split at hk
    · cases hk
    · rename_i sig g hp
      split at hk
      · cases hk
      · rename_i ds hds
        split at hk
        · cases hk
        · rename_i x hx
          have hl := lookP_ok hpt (k + 1) p sig g hp
          rw [← (hl.2 x).2 k rfl, decT_enc _ _ _ hx] at hk
          have ih := points_sound (df := df) hmix hty hd hpt (M0 := M0) (b0 := b0) (w0 := w0) (r := r) k (fun j hj => hall j (by omega))
          exact fromK_sound (fun T ti h => tysB_ok hty T ti h) ⟨fun g m gs h => lookF_ok (hall k (by omega)).1 g m gs h, fun g gs h => lookW_ok (hall k (by omega)).2.2 g gs h, fun g gs h => lookG_ok (hall k (by omega)).2.1 g gs h, hmix.2⟩ hmix.1 c 0 _ _ _ a w hk hd ih (fun e s' a' w' he hm' => ⟨s', he, hm'⟩) (unpack_matches hm hl.1 hds)
theorem encT_length : ∀ (ts : List Ty) (x : TD ts), (encT ts x).length = ts.length
  | [], _ => rfl
  | [_], _ => rfl
  | _ :: u :: ts, x => by simp [encT, encT_length (u :: ts) x.2]
theorem results_at {tyof : TypeId → Option TI} (hty : ∀ T ti, tyof T = some ti → TyOk P T ti) {fn : Func} (hrv : fn.results.toList = rv) {M0 b0 M' : Nat → Prop} {w : World} {s : St} {a : Act} {ν : Nat → Value} (hg : Good M0 b0 ν (obF s.obs) w)
    (hr : ∀ t, RepA (Msum M0 ν (obF s.obs)) ν (· < s.obs.length) (obF s.obs) w (nthD .bad s.fr t) (a.tmps.getD t undef)) (hM : ∀ b, M' b → Msum M0 ν (obF s.obs) b) {ts : List Ty} {ds : List Dyn}
    (hown : ∀ u id ob, .tmp u ∈ rv → nthD .bad s.fr u = .own id → obF s.obs id = some ob → ∀ b, (ν id).ownBlock = some b → ¬ M' b) (hds : resultsK tyof s ts rv = some ds) :
    ∃ us, (results fn a.tmps).run P w = .ok (tupleOf us) w ∧ RepDs M' w ds us := by
  let f0 : ResultVar → Sem Value := fun
    | .tmp t => pure (a.tmps.getD t undef)
    | .cell p t => do loadVar t (← asAddr (a.tmps.getD p undef))
  obtain ⟨us, k1, k2⟩ := results_rep hty hg hr hM f0 (fun u => rfl) (fun p t => rfl) ts rv ds hown hds
  refine ⟨us, results_tuple fun f hf hc => ?_, k2⟩
  have : f = f0 := by
    funext x
    cases x with
    | tmp u => exact hf u
    | cell p t => exact hc p t
  rw [this, hrv]
  exact k1
section plain
variable {ps rs : List Ty} {pts : List (Pt (TD rs))}
theorem end_post {tyof : TypeId → Option TI} (hty : ∀ T ti, tyof T = some ti → TyOk P T ti) {fn : Func} (hrv : fn.results.toList = rv) {M0 : Nat → Prop} {w : World} {nt : NT} (hdf : nt.df = []) {r : TD rs} (e : Exit) (a : Act) (w' : World) (h : QR (endK tyof rv rs) M0 (w.heap.size ≤ ·) w nt r e a w') :
    bodyPost P fn (fun e w' => ∃ us, e = .returned (tupleOf us) ∧ RepDs M0 w' (encT rs r) us ∧ Below w.heap.size w w') e a w' := by
  obtain ⟨s, he, h1, h2, h3, hn3, ν, hw, hg, hr⟩ := h
  have key : (match resultsK tyof s rs rv with | some ds => decT rs ds | none => none) = some r → a.defers = [] ∧ ∃ v, (results fn a.tmps).run P w' = .ok v w' ∧ ∃ us, Ending.returned v = .returned (tupleOf us) ∧ RepDs M0 w' (encT rs r) us ∧ Below w.heap.size w w' := by
    intro hk
    split at hk
    · rename_i ds hds
      have henc := decT_enc _ _ _ hk
      obtain ⟨us, k1, k2⟩ := results_at hty hrv hg hr (M' := M0) (fun b hb => .inl hb) (fun u id ob _ _ hob b hb hm => hg.m0 b hm ((hg.ob id ob hob).2.2.choose_spec.1.2 b hb)) hds
      exact ⟨h1.trans hdf, _, k1, us, rfl, by rw [henc]; exact k2, h2.below⟩
    · cases hk
  cases e with
  | normal => exact key he
  | ret => exact key he
  | _ => simp [endK] at he
theorem fn_core (hf : FnOk P f n rv c ps.length) (hmix : P.follows .mixedOrders = true ∧ ArrsOk P) (hty : tysB P tys = true) (hpt : PtsOk (mkE tys fns fgs fws pts) 0 n (endK (lookT tys) rv rs) c pts) (k : Nat) (hall : ∀ j, j ≤ k → AllK P (fns j) (fgs j) (fws j)) :
    Contract P f ⟨ps, rs, fun x => fnK (mkE tys fns fgs fws pts k) n rv c (encT ps x)⟩ := by
  intro x r hx M w vs hM hgl hvs
  obtain ⟨fn, hfn, hb, hn, hrv, hname⟩ := hf.ok
  left
  have hname' : ¬ fn.name = "runtime.NumGoroutine" := by simpa using hname
  refine ⟨by simp [callFunc, hfn, hname', hb], calls_of_wp hfn hb ?_⟩
  rw [hn]
  have hm := entry_matches (nt := n) hM hgl hvs (by simp only [encT_length]; exact hf.np)
  have hp := points_sound (ro := []) (df := []) hmix hty hf.pts hpt (M0 := M) (b0 := (w.heap.size ≤ ·)) (w0 := w) (r := r) k (fun j hj => hall j (by omega))
  have := codeK_sound (fun T ti h => tysB_ok hty T ti h) ⟨fun g m gs h => lookF_ok (hall k (Nat.le_refl _)).1 g m gs h, fun g gs h => lookW_ok (hall k (Nat.le_refl _)).2.2 g gs h, fun g gs h => lookG_ok (hall k (Nat.le_refl _)).2.1 g gs h, hmix.2⟩ hmix.1 c 0 _ _ _ _ w hx hf.pts hp (fun e s' a' w' he hm' => ⟨s', he, hm'⟩) hm
  exact wp_mono this fun e a w' h => end_post (fun T ti h => tysB_ok hty T ti h) hrv rfl e a w' h
theorem fn_sound (hf : FnOk P f n rv c ps.length) (hmix : P.follows .mixedOrders = true ∧ ArrsOk P) (hty : tysB P tys = true) (hpt : PtsOk (mkE tys fns fgs fws pts) 0 n (endK (lookT tys) rv rs) c pts) {main : Nat → TD ps → Option (TD rs)}
    (hmain : ∀ k x, fnK (mkE tys fns fgs fws pts k) n rv c (encT ps x) = main k x) (hall : ∀ k, AllK P (fns k) (fgs k) (fws k)) (k : Nat) : Contract P f ⟨ps, rs, main k⟩ := by
  intro x r hx
  replace hx : main k x = some r := hx
  rw [← hmain k x] at hx
  exact fn_core hf hmix hty hpt k (fun j _ => hall j) x r hx
theorem fn_sound_rec (hf : FnOk P f n rv c ps.length) (hmix : P.follows .mixedOrders = true ∧ ArrsOk P) (hty : tysB P tys = true) (hpt : PtsOk (mkE tys fns fgs fws pts) 0 n (endK (lookT tys) rv rs) c pts) {main : Nat → TD ps → Option (TD rs)}
    (h0 : ∀ x, main 0 x = none) (hmain : ∀ k x, fnK (mkE tys fns fgs fws pts k) n rv c (encT ps x) = main (k + 1) x) (k : Nat) (hall : ∀ j, j < k → AllK P (fns j) (fgs j) (fws j)) : Contract P f ⟨ps, rs, main k⟩ := by
  intro x r hx
  cases k with
  | zero =>
    replace hx : main 0 x = some r := hx
    rw [h0] at hx
    cases hx
  | succ k =>
    replace hx : main (k + 1) x = some r := hx
    rw [← hmain k x] at hx
    exact fn_core hf hmix hty hpt k (fun j hj => hall j (by omega)) x r hx
end plain
end
end Go.FK


/- A function that writes one of its arguments: its contract, from its equations. -/
namespace Go.FK
open Go.RowKit
variable {P : Program}
def SlotOk (M : Nat → Prop) (w : World) (row : Value) (j0 : Nat) (obs : List (Option Ob)) (av : AV) (v : Value) : Prop :=
  match av with
  | .val t x => RepV M w t x v
  | .win id lo n => ∃ ob, j0 ≤ id ∧ obs[id - j0]? = some (some ob) ∧ 0 < n ∧ lo + n ≤ ob.l.length ∧ ∃ g nn c cap, row = .slice (some ⟨g, 0, none⟩) nn c ∧ v = .slice (some ⟨g, lo * ob.t.sz, none⟩) n cap ∧ n ≤ cap
  | .ptr id 0 [] => ∃ ob, j0 ≤ id ∧ obs[id - j0]? = some (some ob) ∧ ob.l.length = 1 ∧ ∃ g n c, row = .slice (some ⟨g, 0, none⟩) n c ∧ v = .pointer (some ⟨g, 0, none⟩)
  | _ => False
theorem SlotOk.later {M : Nat → Prop} {w : World} {row : Value} {j0 : Nat} {obs : List (Option Ob)} {o : Option Ob} {av : AV} {v : Value} (h : SlotOk M w row (j0 + 1) obs av v) : SlotOk M w row j0 (o :: obs) av v := by
  unfold SlotOk at h ⊢
  split at h
  · exact h
  · rename_i id lo n
    obtain ⟨ob, h1, h2, h3⟩ := h
    refine ⟨ob, by omega, ?_, h3⟩
    have : id - j0 = (id - (j0 + 1)) + 1 := by omega
    rw [this]
    simpa using h2
  · rename_i id
    obtain ⟨ob, h1, h2, h3⟩ := h
    refine ⟨ob, by omega, ?_, h3⟩
    have : id - j0 = (id - (j0 + 1)) + 1 := by omega
    rw [this]
    simpa using h2
  · exact h
theorem entrySlots_rep {M : Nat → Prop} {w : World} {row : Value} : ∀ (ps : List PK) (j : Nat) (ds : List Dyn) (vs : List Value), RepIn M w row ps ds vs →
    (entrySlots ps j ds).1.length = vs.length ∧ (entrySlots ps j ds).2.length = ioN ps ∧ (∀ (k : Nat) (o : Option Ob), (entrySlots ps j ds).2[k]? = some o → ∃ ob, o = some ob ∧ ObInO M w row ob) ∧
      ∀ (i : Nat) (av : AV), (entrySlots ps j ds).1[i]? = some av → ∃ v, vs[i]? = some v ∧ SlotOk M w row j (entrySlots ps j ds).2 av v
  | [], j, [], [], _ => ⟨rfl, rfl, fun k o h => by simp [entrySlots] at h, fun i av h => by simp [entrySlots] at h⟩
  | .val t :: ps, j, d :: ds, v :: vs, h => by
    obtain ⟨h1, h2⟩ := h
    obtain ⟨k1, k2, k3, k4⟩ := entrySlots_rep ps j ds vs h2
    refine ⟨by simp [entrySlots, k1], by simp [entrySlots, k2, ioN, PK.io], by simpa [entrySlots] using k3, fun i av hi => ?_⟩
    cases i with
    | zero =>
      simp only [entrySlots, List.getElem?_cons_zero, Option.some.injEq] at hi
      subst hi
      exact ⟨v, rfl, h1⟩
    | succ i =>
      obtain ⟨u, hu, hs⟩ := k4 i av (by simpa [entrySlots] using hi)
      exact ⟨u, by simpa using hu, hs⟩
  | .win e t :: ps, j, ⟨.list u, l⟩ :: ⟨.flt, lo⟩ :: ⟨.flt, n⟩ :: ds, v :: vs, h => by
    obtain ⟨h1, h2, h3, h4, h5⟩ := h
    obtain ⟨k1, k2, k3, k4⟩ := entrySlots_rep ps (j + 1) ds vs h5
    refine ⟨by simp [entrySlots, k1], by simp [entrySlots, k2, ioN, PK.io, Nat.add_comm], fun k o hk => ?_, fun i av hi => ?_⟩
    · cases k with
      | zero =>
        simp only [entrySlots, List.getElem?_cons_zero, Option.some.injEq] at hk
        exact ⟨_, hk.symm, h1⟩
      | succ k => exact k3 k o (by simpa [entrySlots] using hk)
    · cases i with
      | zero =>
        simp only [entrySlots, List.getElem?_cons_zero, Option.some.injEq] at hi
        subst hi
        exact ⟨v, rfl, _, Nat.le_refl _, by simp [entrySlots]; rfl, h2, h3, h4⟩
      | succ i =>
        obtain ⟨u, hu, hs⟩ := k4 i av (by simpa [entrySlots] using hi)
        exact ⟨u, by simpa using hu, hs.later⟩
  | .obj e t :: ps, j, d :: ds, v :: vs, h => by
    obtain ⟨h1, h2, h5⟩ := h
    obtain ⟨k1, k2, k3, k4⟩ := entrySlots_rep ps (j + 1) ds vs h5
    refine ⟨by simp [entrySlots, k1], by simp [entrySlots, k2, ioN, PK.io, Nat.add_comm], fun k o hk => ?_, fun i av hi => ?_⟩
    · cases k with
      | zero =>
        simp only [entrySlots, List.getElem?_cons_zero, Option.some.injEq] at hk
        exact ⟨_, hk.symm, h1⟩
      | succ k => exact k3 k o (by simpa [entrySlots] using hk)
    · cases i with
      | zero =>
        simp only [entrySlots, List.getElem?_cons_zero, Option.some.injEq] at hi
        subst hi
        exact ⟨v, rfl, _, Nat.le_refl _, by simp [entrySlots]; rfl, rfl, h2⟩
      | succ i =>
        obtain ⟨u, hu, hs⟩ := k4 i av (by simpa [entrySlots] using hi)
        exact ⟨u, by simpa using hu, hs.later⟩
theorem entryG_matches {M : Nat → Prop} {w : World} {row : Value} {n : Nat} {ps : List PK} {ds : List Dyn} {vs : List Value} (hM : ∀ b, M b → b < w.heap.size) (hrow : ∀ b, row.ownBlock = some b → M b) (hgl : Gl M w) (h1 : ioN ps = 1) (h : RepIn M w row ps ds vs) (hn : vs.length ≤ n) :
    Matches (fun b => M b ∧ row.ownBlock ≠ some b) (fun b => w.heap.size ≤ b ∨ row.ownBlock = some b) w ⟨n, [row], []⟩ (entryG n ps ds) { tmps := vs.toArray ++ Array.replicate (n - vs.toArray.size) undef, defers := [] } w := by
  obtain ⟨k1, k2, k3, k4⟩ := entrySlots_rep ps 0 ds vs h
  rw [h1] at k2
  obtain ⟨ob, hobs⟩ : ∃ ob, (entrySlots ps 0 ds).2 = [some ob] := by
    match he : (entrySlots ps 0 ds).2, k2 with
    | [o], _ =>
      obtain ⟨ob, e, _⟩ := k3 0 o (by rw [he]; rfl)
      exact ⟨ob, by rw [e]⟩
  obtain ⟨ob', e', hin⟩ := k3 0 (some ob) (by rw [hobs]; rfl)
  cases e'
  have hF : ∀ id ob2, obF [some ob] id = some ob2 → id = 0 ∧ ob2 = ob := by
    intro id ob2 h2
    cases id with
    | zero => exact ⟨rfl, by simpa [obF, nthD] using h2.symm⟩
    | succ id => simp [obF, nthD] at h2
  have hMs : ∀ b, Msum (fun b => M b ∧ row.ownBlock ≠ some b) (fun _ => row) (obF [some ob]) b → M b := by
    rintro b (hb | ⟨id, ob2, _, hb⟩)
    · exact hb.1
    · exact hrow b hb
  obtain ⟨q1, q2, xs, q3, q4⟩ := hin
  have hent : entryG n ps ds = ⟨(entrySlots ps 0 ds).1 ++ blank (n - (entrySlots ps 0 ds).1.length), [some ob]⟩ := by simp [entryG, hobs]
  rw [hent]
  refine ⟨rfl, Beyond.refl _ _, by simp [length_blank, k1], by simp; omega, fun _ => row, fun j v hj => ?_, ⟨fun b hb => ?_, hgl.next (Nat.le_refl _) (fun _ _ _ => rfl) (fun b hb h => h.elim (fun h => h.1) fun h => h.elim (fun h => absurd hb (by omega)) (hrow b)), fun b hb => .inl hb, fun id ob2 ho => ?_, fun i j obi obj hi hj hij => ?_⟩, fun t => ?_⟩
  · cases j with
    | zero => simp at hj; exact ⟨by simp, hj⟩
    | succ j => simp at hj
  · rintro (h | h)
    · have := hM b hb.1; omega
    · exact hb.2 h
  · obtain ⟨rfl, rfl⟩ := hF id ob2 ho
    exact ⟨q1, q2, xs, ⟨q3, fun b hb => .inr hb⟩, q4.next (Agree.refl _ _) (fun b _ hb => hMs b hb)⟩
  · obtain ⟨rfl, _⟩ := hF i obi hi
    obtain ⟨rfl, _⟩ := hF j obj hj
    exact absurd rfl hij
  · by_cases ht : t < (entrySlots ps 0 ds).1.length
    · obtain ⟨v, h2, h3⟩ := k4 t _ (List.getElem?_eq_getElem ht)
      have e1 : nthD AV.bad ((entrySlots ps 0 ds).1 ++ blank (n - (entrySlots ps 0 ds).1.length)) t = (entrySlots ps 0 ds).1[t] := by
        rw [nthD_eq, List.getD_eq_getElem?_getD, List.getElem?_append_left ht]
        simp [ht]
      have e2 : ({ tmps := vs.toArray ++ Array.replicate (n - vs.toArray.size) undef, defers := [] } : Act).tmps.getD t undef = v := by
        rw [Array.getD_eq_getD_getElem?, Array.getElem?_append_left (by simp; omega)]
        simp [h2]
      rw [e1, e2]
      rw [hobs] at h3
      generalize (entrySlots ps 0 ds).1[t] = av at h3
      unfold SlotOk at h3
      split at h3
      · exact RepV.next (Agree.refl _ _) (fun b _ hb => hMs b hb) h3
      · rename_i id lo m
        obtain ⟨ob2, _, h4, h5, h6, h7⟩ := h3
        have hid : id = 0 ∧ ob2 = ob := by
          cases id with
          | zero => simp at h4; exact ⟨rfl, h4.symm⟩
          | succ id => simp at h4
        obtain ⟨rfl, rfl⟩ := hid
        refine ⟨by simp, fun ob3 ho3 => ?_⟩
        obtain ⟨_, rfl⟩ := hF _ ob3 ho3
        exact ⟨h5, h6, h7⟩
      · rename_i id
        obtain ⟨ob2, _, h4, h5, g, nn, c, h6, h7⟩ := h3
        have hid : id = 0 ∧ ob2 = ob := by
          cases id with
          | zero => simp at h4; exact ⟨rfl, h4.symm⟩
          | succ id => simp at h4
        obtain ⟨rfl, rfl⟩ := hid
        refine ⟨by simp, fun ob3 ho3 => ?_⟩
        obtain ⟨_, rfl⟩ := hF _ ob3 ho3
        exact ⟨by omega, g, nn, c, h6, by simpa [offP] using h7⟩
      · exact h3.elim
    · have e1 : nthD AV.bad ((entrySlots ps 0 ds).1 ++ blank (n - (entrySlots ps 0 ds).1.length)) t = .bad := by
        rw [nthD_eq, List.getD_eq_getElem?_getD, List.getElem?_append_right (by omega)]
        have := nthD_blank (n - (entrySlots ps 0 ds).1.length) (t - (entrySlots ps 0 ds).1.length)
        rw [nthD_eq, List.getD_eq_getElem?_getD] at this
        exact this
      rw [e1]
      trivial
theorem ownFree_spec {io : Nat} {s : St} : ∀ {rv : List ResultVar}, ownFree io s rv = true → ∀ u id, ResultVar.tmp u ∈ rv → nthD .bad s.fr u = .own id → io ≤ id
  | .tmp v :: rs, h, u, id, hm, he => by
    simp only [ownFree, Bool.and_eq_true] at h
    rcases List.mem_cons.1 hm with hm | hm
    · cases hm
      have := h.1
      rw [he] at this
      simpa using this
    · exact ownFree_spec h.2 u id hm he
  | .cell a T :: rs, h, u, id, hm, he => by
    rcases List.mem_cons.1 hm with hm | hm
    · cases hm
    · exact ownFree_spec (by simpa [ownFree] using h) u id hm he
theorem outsK_one {s : St} : ∀ (ps : List PK) (os : List Dyn), ioN ps = 1 → outsK s ps 0 = some os → ∃ ob o, nthD none s.obs 0 = some ob ∧ os = [o] ∧ ∀ p ob', ioP ps = some p → p.ob o = some ob' → ob' = ob
  | [], os, h, _ => by simp [ioN] at h
  | .val t :: ps, os, h, ho => by
    obtain ⟨ob, o, h1, h2, h3⟩ := outsK_one ps os (by simpa [ioN, PK.io] using h) (by simpa [outsK] using ho)
    exact ⟨ob, o, h1, h2, fun p ob' hp => h3 p ob' (by simpa [ioP] using hp)⟩
  | .win e t :: ps, os, h, ho => by
    have h0 : ioN ps = 0 := by simpa [ioN, PK.io] using h
    have hn : ∀ (ps : List PK) (j : Nat), ioN ps = 0 → outsK s ps j = some [] := by
      intro ps
      induction ps with
      | nil => intro j _; rfl
      | cons p ps ih =>
        intro j hp
        cases p <;> simp [ioN, PK.io] at hp
        simpa [outsK] using ih j hp
    simp only [outsK, hn ps 1 h0] at ho
    split at ho
    · rename_i ob ds hob hds
      split at ho
      · rename_i hc
        simp only [Bool.and_eq_true, decide_eq_true_eq] at hc
        simp only [Option.some.injEq] at ho hds
        subst ho hds
        refine ⟨ob, _, hob, rfl, fun p ob' hp hob' => ?_⟩
        simp only [ioP, Option.some.injEq] at hp
        subst hp
        simp only [PK.ob, Option.some.injEq] at hob'
        rw [← hob', ← hc.1]
      · cases ho
    · cases ho
  | .obj e t :: ps, os, h, ho => by
    have h0 : ioN ps = 0 := by simpa [ioN, PK.io] using h
    have hn : ∀ (ps : List PK) (j : Nat), ioN ps = 0 → outsK s ps j = some [] := by
      intro ps
      induction ps with
      | nil => intro j _; rfl
      | cons p ps ih =>
        intro j hp
        cases p <;> simp [ioN, PK.io] at hp
        simpa [outsK] using ih j hp
    simp only [outsK, hn ps 1 h0] at ho
    split at ho
    · rename_i ob ds hob hds
      obtain ⟨oe, ot, ol⟩ := ob
      simp only at ho
      match ol, ho, hob with
      | [x], ho, hob =>
        simp only at ho
        split at ho
        · rename_i hc
          simp only [Bool.and_eq_true, decide_eq_true_eq] at hc
          simp only [Option.some.injEq] at ho hds
          subst ho hds
          refine ⟨_, _, hob, rfl, fun p ob' hp hob' => ?_⟩
          simp only [ioP, Option.some.injEq] at hp
          subst hp
          simp only [PK.ob, Option.some.injEq] at hob'
          rw [← hob', ← hc.1]
        · cases ho
    · cases ho
section
variable {f : FuncId} {n : Nat} {rv : List ResultVar} {c : Code} {tys : List (TypeId × TI)} {fns : Nat → List (FuncId × FS)} {fgs : Nat → List (FuncId × FG)} {fws : Nat → List (FuncId × FW)} {ps : List PK} {rs : List Ty} {pts : List (Pt (TD (ps.flatMap PK.outs ++ rs)))}
theorem end_postG {tyof : TypeId → Option TI} (hty : ∀ T ti, tyof T = some ti → TyOk P T ti) {fn : Func} (hrv : fn.results.toList = rv) (h1 : ioN ps = 1) {nw : Option TypeId} {M : Nat → Prop} {w : World} {row : Value} {r : TD (ps.flatMap PK.outs ++ rs)} (e : Exit) (a : Act) (w' : World)
    (h : QR (endG tyof rv ps nw rs) (fun b => M b ∧ row.ownBlock ≠ some b) (fun b => w.heap.size ≤ b ∨ row.ownBlock = some b) w ⟨n, [row], []⟩ r e a w') :
    bodyPost P fn (fun e w' => ∃ us o rds N, e = .returned (tupleOf us) ∧ encT (ps.flatMap PK.outs ++ rs) r = o :: rds ∧ (∀ b, N b → w.heap.size ≤ b) ∧ (∀ p ob, ioP ps = some p → p.ob o = some ob → ObInO (fun b => M b ∨ N b) w' row ob) ∧
      ResG (fun b => M b ∨ N b) N w' nw rds us ∧ Beyond (fun b => w.heap.size ≤ b ∨ row.ownBlock = some b) w w') e a w' := by
  obtain ⟨s, he, k1, k2, k3, hn3, ν, hw, hg, hr⟩ := h
  have key : (match outsK s ps 0, resultsK tyof s rs rv with
      | some os, some ds => bif ownFree (ioN ps) s rv && newOk nw s rs rv then decT (ps.flatMap PK.outs ++ rs) (os ++ ds) else none
      | _, _ => none) = some r → a.defers = [] ∧ ∃ v, (results fn a.tmps).run P w' = .ok v w' ∧ ∃ us o rds N, Ending.returned v = .returned (tupleOf us) ∧ encT (ps.flatMap PK.outs ++ rs) r = o :: rds ∧ (∀ b, N b → w.heap.size ≤ b) ∧ (∀ p ob, ioP ps = some p → p.ob o = some ob → ObInO (fun b => M b ∨ N b) w' row ob) ∧
        ResG (fun b => M b ∨ N b) N w' nw rds us ∧ Beyond (fun b => w.heap.size ≤ b ∨ row.ownBlock = some b) w w' := by
    intro hk
    split at hk
    · rename_i os ds hos hds
      cases hof : (ownFree (ioN ps) s rv && newOk nw s rs rv) <;> rw [hof] at hk
      · cases hk
      simp only [cond_true] at hk
      simp only [Bool.and_eq_true] at hof
      obtain ⟨hof, hno⟩ := hof
      have henc := decT_enc _ _ _ hk
      obtain ⟨ob, o, hob, rfl, hpo⟩ := outsK_one ps os h1 hos
      have hobF : obF s.obs 0 = some ob := hob
      have hν : ν 0 = row := (hw 0 row rfl).2
      have hM : ∀ b, M b → Msum (fun b => M b ∧ row.ownBlock ≠ some b) ν (obF s.obs) b := by
        intro b hb
        by_cases e : row.ownBlock = some b
        · exact .inr ⟨0, ob, hobF, by rw [hν]; exact e⟩
        · exact .inl ⟨hb, e⟩
      have hio : ∀ (N : Nat → Prop), (∀ b, N b → Msum (fun b => M b ∧ row.ownBlock ≠ some b) ν (obF s.obs) b) → ∀ p ob', ioP ps = some p → p.ob o = some ob' → ObInO (fun b => M b ∨ N b) w' row ob' := by
        intro N hN p ob' hp hob'
        rw [hpo p ob' hp hob']
        obtain ⟨z1, z2, xs, z3, z4⟩ := hg.ob 0 ob hobF
        rw [hν] at z3
        exact ⟨z1, z2, xs, z3.1, z4.next (Agree.refl _ _) (fun b _ hb => hb.elim (hM b) (hN b))⟩
      have hownM : ∀ u id ob2, ResultVar.tmp u ∈ rv → nthD .bad s.fr u = .own id → obF s.obs id = some ob2 → ∀ b, (ν id).ownBlock = some b → ¬ M b := fun u id ob2 hu hav hob2 b hb hm => by
        have hge := ownFree_spec hof u id hu hav
        rw [h1] at hge
        have hB := (hg.ob id ob2 hob2).2.2.choose_spec.1.2 b hb
        by_cases e : row.ownBlock = some b
        · exact hg.ne 0 id ob ob2 hobF hob2 (by omega) b (by rw [hν]; exact e) hb
        · exact hg.m0 b ⟨hm, e⟩ hB
      cases nw with
      | none =>
        obtain ⟨us, q1, q2⟩ := results_at hty hrv hg hr (M' := fun b => M b ∨ False) (fun b hb => hM b (hb.elim id False.elim)) (fun u id ob2 hu hav hob2 b hb hm => hownM u id ob2 hu hav hob2 b hb (hm.elim (fun h => h) False.elim)) hds
        exact ⟨k1, _, q1, us, o, ds, fun _ => False, rfl, by rw [henc]; rfl, fun b hb => hb.elim, hio _ (fun b hb => hb.elim), q2, k2⟩
      | some e =>
        match rs, rv, hno, hds, hrv, hof, hownM with
        | .list t :: rs2, .tmp u :: rv2, hno, hds, hrv, hof, hownM =>
          simp only [newOk, Bool.and_eq_true, decide_eq_true_eq] at hno
          obtain ⟨⟨⟨ht, hsz⟩, hfst⟩, hrest⟩ := hno
          obtain ⟨l, ds2, rfl, hds2, hlead⟩ : ∃ (l : List t.D) (ds2 : List Dyn), ds = ⟨.list t, l⟩ :: ds2 ∧ resultsK tyof s rs2 rv2 = some ds2 ∧ ((∃ id, nthD .bad s.fr u = .own id ∧ obF s.obs id = some ⟨e, t, l⟩) ∨ (nthD .bad s.fr u = .nil ∧ l = [])) := by
            simp only [resultsK] at hds
            cases hav : nthD .bad s.fr u with
            | own id =>
              rw [hav] at hfst hds
              simp only at hfst
              split at hfst
              · rename_i ob2 hob2
                obtain ⟨oe, ot, ol⟩ := ob2
                simp only [Bool.and_eq_true, decide_eq_true_eq, beq_iff_eq] at hfst
                obtain ⟨rfl, rfl⟩ := hfst
                simp only [toDynO, hob2, ht, cond_true] at hds
                split at hds
                · rename_i d ds' hd hds'
                  simp only [Option.some.injEq] at hd hds
                  subst hd
                  exact ⟨ol, ds', hds.symm, hds', .inl ⟨id, rfl, hob2⟩⟩
                · cases hds
              · cases hfst
            | nil =>
              rw [hav] at hds
              simp only [toDyn, ht, if_true] at hds
              split at hds
              · rename_i d ds' hd hds'
                simp only [Option.some.injEq] at hd hds
                subst hd
                exact ⟨[], ds', hds.symm, hds', .inr ⟨rfl, rfl⟩⟩
              · cases hds
            | _ => rw [hav] at hfst; cases hfst
          obtain ⟨N, v, hN1, hN2, hN3, hvv, hvb, hobv⟩ : ∃ (N : Nat → Prop) (v : Value), (∀ b, N b → Msum (fun b => M b ∧ row.ownBlock ≠ some b) ν (obF s.obs) b) ∧ (∀ b, N b → w.heap.size ≤ b) ∧ (∀ b, N b → v.ownBlock = some b) ∧ a.tmps.getD u undef = v ∧ (∀ b, v.ownBlock = some b → N b) ∧ ObIn (fun b => M b ∨ N b) w' v ⟨e, t, l⟩ := by
            have hru := hr u
            rcases hlead with ⟨id, hav, hob2⟩ | ⟨hav, rfl⟩
            · rw [hav] at hru
              obtain ⟨_, hv⟩ := hru
              obtain ⟨_, z2, xs, z3, z4⟩ := hg.ob id _ hob2
              refine ⟨fun b => (ν id).ownBlock = some b, ν id, fun b hb => .inr ⟨id, _, hob2, hb⟩, fun b hb => ?_, fun b hb => hb, hv, fun b hb => hb, ht, z2, xs, z3.1.1 ht, z4.next (Agree.refl _ _) (fun b _ hb => hb.elim (hM b) fun hb => .inr ⟨id, _, hob2, hb⟩)⟩
              rcases z3.2 b hb with h | h
              · exact h
              · have hge := ownFree_spec hof u id (by simp) hav
                rw [h1] at hge
                exact absurd hb (hg.ne 0 id ob _ hobF hob2 (by omega) b (by rw [hν]; exact h))
            · rw [hav] at hru
              have hv : a.tmps.getD u undef = .slice none 0 0 := hru
              exact ⟨fun _ => False, .slice none 0 0, fun b hb => hb.elim, fun b hb => hb.elim, fun b hb => hb.elim, hv, (fun b hb => by cases hb), ht, hsz, [], World.ownsRow_nil _ _ _ _, RepRow.nil _ _ _⟩
          have hrest' : ∀ u2 id, ResultVar.tmp u2 ∈ rv2 → nthD .bad s.fr u2 = .own id → False := by
            intro u2 id hm hav
            have := List.all_eq_true.1 hrest _ hm
            simp only [hav] at this
            cases this
          let f0 : ResultVar → Sem Value := fun
            | .tmp t => pure (a.tmps.getD t undef)
            | .cell p t => do loadVar t (← asAddr (a.tmps.getD p undef))
          obtain ⟨us2, q1, q2⟩ := results_rep hty hg hr (M' := fun b => M b ∨ N b) (fun b hb => hb.elim (hM b) (hN1 b)) f0 (fun u => rfl) (fun p t => rfl) rs2 rv2 ds2 (fun u2 id ob2 hm hav _ _ _ => (hrest' u2 id hm hav).elim) hds2
          have hrun : (results fn a.tmps).run P w' = .ok (tupleOf (v :: us2)) w' := by
            refine results_tuple fun f hf hc => ?_
            have : f = f0 := by
              funext x
              cases x with
              | tmp u => exact hf u
              | cell p t => exact hc p t
            rw [this, hrv, List.mapM_cons]
            simp only [Sem.run_bind]
            rw [show (f0 (.tmp u)).run P w' = .ok (a.tmps.getD u undef) w' from rfl]
            simp only [Result.andThen_ok, q1, Sem.run_pure, hvv]
          exact ⟨k1, _, hrun, v :: us2, o, ⟨.list t, l⟩ :: ds2, N, rfl, by rw [henc]; rfl, hN2, hio N hN1, ⟨hvb, hobv, q2⟩, k2⟩
        | [], rv, hno, _, _, _, _ => simp [newOk] at hno
        | .list _ :: _, [], hno, _, _, _, _ => simp [newOk] at hno
        | .list _ :: _, .cell _ _ :: _, hno, _, _, _, _ => simp [newOk] at hno
        | .int _ :: _, _, hno, _, _, _, _ => simp [newOk] at hno
        | .bool :: _, _, hno, _, _, _, _ => simp [newOk] at hno
        | .str :: _, _, hno, _, _, _, _ => simp [newOk] at hno
        | .flt :: _, _, hno, _, _, _, _ => simp [newOk] at hno
        | .fnc _ :: _, _, hno, _, _, _, _ => simp [newOk] at hno
        | .nilI :: _, _, hno, _, _, _, _ => simp [newOk] at hno
        | .kids :: _, _, hno, _, _, _, _ => simp [newOk] at hno
        | .st _ :: _, _, hno, _, _, _, _ => simp [newOk] at hno
        | .unit :: _, _, hno, _, _, _, _ => simp [newOk] at hno
        | .pair _ _ :: _, _, hno, _, _, _, _ => simp [newOk] at hno
    · cases hk
  cases e with
  | normal => exact key he
  | ret => exact key he
  | _ => simp [endG] at he
theorem RepIn.len {M : Nat → Prop} {w : World} {row : Value} {ps : List PK} {ds : List Dyn} {vs : List Value} (h : RepIn M w row ps ds vs) : vs.length = ps.length := by
  induction ps generalizing ds vs with
  | nil =>
    match ds, vs, h with
    | [], [], _ => rfl
  | cons p ps ih =>
    cases p with
    | val t =>
      match ds, vs, h with
      | d :: ds, v :: vs, h => simp [ih h.2]
    | win e t =>
      match ds, vs, h with
      | ⟨.list u, l⟩ :: ⟨.flt, lo⟩ :: ⟨.flt, n⟩ :: ds, v :: vs, h => simp [ih h.2.2.2.2]
    | obj e t =>
      match ds, vs, h with
      | d :: ds, v :: vs, h => simp [ih h.2.2]
theorem fn_soundG {nw : Option TypeId} (hf : FnOk P f n rv c ps.length) (h1 : ioN ps = 1) (hmix : P.follows .mixedOrders = true ∧ ArrsOk P) (hty : tysB P tys = true) (hpt : PtsOk (mkE tys fns fgs fws pts) 1 n (endG (lookT tys) rv ps nw rs) c pts) {main : Nat → TD (ps.flatMap PK.ins) → Option (TD (ps.flatMap PK.outs ++ rs))}
    (hmain : ∀ k x, fnG (mkE tys fns fgs fws pts k) nw n rv c (encT (ps.flatMap PK.ins) x) = main k x) (hall : ∀ k, AllK P (fns k) (fgs k) (fws k)) (k : Nat) : ContractG P f ⟨ps, rs, nw, main k⟩ := by
  intro x r hx M w vs row hM hrow hgl hin
  replace hx : main k x = some r := hx
  rw [← hmain k x] at hx
  obtain ⟨fn, hfn, hb, hn, hrv, hname⟩ := hf.ok
  left
  have hname' : ¬ fn.name = "runtime.NumGoroutine" := by simpa using hname
  refine ⟨by simp [callFunc, hfn, hname', hb], calls_of_wp hfn hb ?_⟩
  rw [hn]
  have hlen := RepIn.len hin
  have hm := entryG_matches (n := n) hM hrow hgl h1 hin (by rw [hlen]; exact hf.np)
  have hp := points_sound (ro := [row]) (df := []) hmix hty hf.pts hpt (M0 := fun b => M b ∧ row.ownBlock ≠ some b) (b0 := fun b => w.heap.size ≤ b ∨ row.ownBlock = some b) (w0 := w) (r := r) k (fun j _ => hall j)
  have := codeK_sound (fun T ti h => tysB_ok hty T ti h) ⟨fun g m gs h => lookF_ok (hall k).1 g m gs h, fun g gs h => lookW_ok (hall k).2.2 g gs h, fun g gs h => lookG_ok (hall k).2.1 g gs h, hmix.2⟩ hmix.1 c 0 _ _ _ _ w hx hf.pts hp (fun e s' a' w' he hm' => ⟨s', he, hm'⟩) hm
  exact wp_mono this fun e a w' h => end_postG (fun T ti h => tysB_ok hty T ti h) hrv h1 e a w' h
end
section
variable {f : FuncId} {n : Nat} {rv : List ResultVar} {c : Code} {tys : List (TypeId × TI)} {fns : Nat → List (FuncId × FS)} {fgs : Nat → List (FuncId × FG)} {fws : Nat → List (FuncId × FW)} {ps : List Ty} {e : TypeId} {t : Ty} {bx : Bool} {pts : List (Pt (List t.D))}
theorem castD_list {ob : Ob} {t : Ty} {r : List t.D} {e : TypeId} (h : (if ob.e = e then castD (.list ob.t) (.list t) ob.l else none) = some r) : ob = ⟨e, t, r⟩ := by
  split at h
  · rename_i he
    obtain ⟨oe, ot, ol⟩ := ob
    simp only at he
    subst he
    unfold castD at h
    split at h
    · rename_i hc
      simp only [Ty.list.injEq] at hc
      subst hc
      simp only [Option.some.injEq] at h
      rw [← h]
    · cases h
  · cases h
theorem end_postW {fn : Func} (hrv : fn.results.toList = rv) {M : Nat → Prop} {w : World} {nt : NT} (hdf : nt.df = []) {r : List t.D} (ex : Exit) (a : Act) (w' : World)
    (h : QR (endW rv e t bx) M (w.heap.size ≤ ·) w nt r ex a w') :
    bodyPost P fn (fun en w' => ∃ v row, en = .returned v ∧ (if bx = true then 0 < r.length ∧ ∃ g n c, row = .slice (some ⟨g, 0, none⟩) n c ∧ v = .pointer (some ⟨g, 0, none⟩) else v = row) ∧
      (∀ b, row.ownBlock = some b → w.heap.size ≤ b) ∧ ObIn (fun b => M b ∨ row.ownBlock = some b) w' row ⟨e, t, r⟩ ∧ Below w.heap.size w w') ex a w' := by
  obtain ⟨s, he, k1, k2, k3, hn3, ν, hw, hg, hr⟩ := h
  have hres : ∀ u, rv = [.tmp u] → (results fn a.tmps).run P w' = .ok (a.tmps.getD u undef) w' := by
    intro u hu
    have := results_tuple (P := P) (fn := fn) (tmps := a.tmps) (w := w') (us := [a.tmps.getD u undef]) (fun f hf hc => by rw [hrv, hu]; simp [List.mapM_cons, hf])
    simpa [tupleOf] using this
  have hob : t.ok false = true → ∀ id, obF s.obs id = some ⟨e, t, r⟩ → (∀ b, (ν id).ownBlock = some b → w.heap.size ≤ b) ∧ ObIn (fun b => M b ∨ (ν id).ownBlock = some b) w' (ν id) ⟨e, t, r⟩ := by
    intro hok id hid
    obtain ⟨_, q2, xs, q3, q4⟩ := hg.ob id _ hid
    refine ⟨q3.2, hok, q2, xs, q3.1.1 hok, q4.next (Agree.refl _ _) (fun b _ hb => ?_)⟩
    rcases hb with hb | hb
    · exact .inl hb
    · exact .inr ⟨id, _, hid, hb⟩
  have key : (bif t.ok false then endW1 rv e t bx s else none) = some r → a.defers = [] ∧ ∃ v, (results fn a.tmps).run P w' = .ok v w' ∧ ∃ v' row, Ending.returned v = .returned v' ∧ (if bx = true then 0 < r.length ∧ ∃ g n c, row = .slice (some ⟨g, 0, none⟩) n c ∧ v' = .pointer (some ⟨g, 0, none⟩) else v' = row) ∧
        (∀ b, row.ownBlock = some b → w.heap.size ≤ b) ∧ ObIn (fun b => M b ∨ row.ownBlock = some b) w' row ⟨e, t, r⟩ ∧ Below w.heap.size w w' := by
    intro hk
    refine ⟨k1.trans hdf, ?_⟩
    cases hok : t.ok false <;> rw [hok] at hk
    · cases hk
    simp only [cond_true] at hk
    unfold endW1 at hk
    split at hk
    · rename_i u
      have hru := hr u
      split at hk
      · rename_i id hav
        rw [hav] at hru
        cases hbx : bx <;> rw [hbx] at hk
        · simp only [cond_false] at hk
          split at hk
          · rename_i ob hob'
            have e1 := castD_list hk
            subst e1
            obtain ⟨q1, q2⟩ := hob hok id hob'
            exact ⟨_, hres u rfl, _, ν id, rfl, by simp [hru.2], q1, q2, k2.below⟩
          · cases hk
        · cases hk
      · rename_i hav
        rw [hav] at hru
        have hnil : a.tmps.getD u undef = .slice none 0 0 := hru
        cases hbx : bx <;> rw [hbx] at hk
        · simp only [cond_false] at hk
          split at hk
          · rename_i hc
            simp only [Bool.and_eq_true, decide_eq_true_eq] at hc
            simp only [Option.some.injEq] at hk
            subst hk
            exact ⟨_, hres u rfl, _, .slice none 0 0, rfl, by simp [hnil], (fun b hb => by cases hb), ⟨hc.1, hc.2, [], World.ownsRow_nil _ _ _ _, RepRow.nil _ _ _⟩, k2.below⟩
          · cases hk
        · cases hk
      · rename_i id hav
        rw [hav] at hru
        cases hbx : bx <;> rw [hbx] at hk
        · cases hk
        · simp only [cond_true] at hk
          split at hk
          · rename_i ob hob'
            have e1 := castD_list hk
            subst e1
            obtain ⟨q1, q2⟩ := hob hok id hob'
            obtain ⟨p1, g, n', c', p2, p3⟩ := hru.2 _ hob'
            exact ⟨_, hres u rfl, _, ν id, rfl, by simp only [if_true]; exact ⟨p1, g, n', c', p2, by simpa [offP] using p3⟩, q1, q2, k2.below⟩
          · cases hk
      · cases hk
    · cases hk
  cases ex with
  | normal => exact key he
  | ret => exact key he
  | _ => simp [endW] at he
theorem fn_soundW (hf : FnOk P f n rv c ps.length) (hmix : P.follows .mixedOrders = true ∧ ArrsOk P) (hty : tysB P tys = true) (hpt : PtsOk (mkE tys fns fgs fws pts) 0 n (endW rv e t bx) c pts) {main : Nat → TD ps → Option (List t.D)}
    (hmain : ∀ k x, fnW (mkE tys fns fgs fws pts k) n rv e bx c (encT ps x) = main k x) (hall : ∀ k, AllK P (fns k) (fgs k) (fws k)) (k : Nat) : ContractW P f ⟨ps, e, t, bx, main k⟩ := by
  intro x r hx M w vs hM hgl hvs
  replace hx : main k x = some r := hx
  rw [← hmain k x] at hx
  obtain ⟨fn, hfn, hb, hn, hrv, hname⟩ := hf.ok
  left
  have hname' : ¬ fn.name = "runtime.NumGoroutine" := by simpa using hname
  refine ⟨by simp [callFunc, hfn, hname', hb], calls_of_wp hfn hb ?_⟩
  rw [hn]
  have hm := entry_matches (nt := n) hM hgl hvs (by simp only [encT_length]; exact hf.np)
  have hp := points_sound (ro := []) (df := []) hmix hty hf.pts hpt (M0 := M) (b0 := (w.heap.size ≤ ·)) (w0 := w) (r := r) k (fun j _ => hall j)
  have := codeK_sound (fun T ti h => tysB_ok hty T ti h) ⟨fun g m gs h => lookF_ok (hall k).1 g m gs h, fun g gs h => lookW_ok (hall k).2.2 g gs h, fun g gs h => lookG_ok (hall k).2.1 g gs h, hmix.2⟩ hmix.1 c 0 _ _ _ _ w hx hf.pts hp (fun e s' a' w' he hm' => ⟨s', he, hm'⟩) hm
  exact wp_mono this fun e a w' h => end_postW hrv rfl e a w' h
end
end Go.FK


/- The model's own entries that the code calls: their contracts. -/
namespace Go.FK
open Go.RowKit
theorem indexByteString_contract {P : Program} {f : FuncId} {fn : Func} (hf : P.funcs[f]? = some fn) (hname : (fn.name == "runtime.NumGoroutine") = false)
    (hb : fn.body.isNone = true) (hn : Extern.findNext fn = none) (he : Extern.find fn = some Extern.BytealgIndexByte.indexByte) {F : ByteArray → Int → Option Int} (hF : ∀ s c, F s c = some (Go.Lib.indexByte s.data.toList c.toNat.toUInt8)) :
    Contract P f ⟨[.str, .int .u8], [.int .i64], fun (x : ByteArray × Int) => F x.1 x.2⟩ := by
  intro x r hx M w vs hM _ hvs
  have hr : some (Go.Lib.indexByte x.1.data.toList x.2.toNat.toUInt8) = some r := by rw [← hF]; exact hx
  simp only [Option.some.injEq] at hr
  match vs, hvs with
  | [u, v], ⟨h1, h2, _⟩ =>
    have e1 : u = .string x.1 := repV_str h1
    have e2 : v = .int .u8 x.2 := repV_int h2
    subst e1 e2
    right
    refine ⟨.int .i64 r, w, ?_, [.int .i64 r], rfl, ⟨int_repV _ _ _ _, trivial⟩, Below.refl _ w⟩
    rw [run_callFunc_extern hf hname hb hn he]
    have := Go.Lib.run_indexByteString (P := P) x.1 x.2 w
    rw [hr] at this
    rw [this]
    rfl
end Go.FK
