/- Operations that write nothing that is there, second part: operators, loads, new objects. -/
import Derived.Test.YtiacmfebhoodnaaFkF
namespace Go.FK
open Go.RowKit

variable {P : Program} {nid : Nat} {obsm : Obs} {ρ : Operand → AV} {X R : Type}

/-- An operator's value, whatever the world. -/
def ValSound (P : Program) (f : World → Sem Value) (av : AV) : Prop := ∀ (M : Nat → Prop) (ν : Nat → Value) (dom : Nat → Prop) (obs : Obs) (w : World), ∃ v, (f w).run P w = .ok v w ∧ RepA M ν dom obs w av v

theorem isBool_ok {E : Env X} (hty : ∀ T ti, E.ty T = some ti → TyOk P T ti) {T : TypeId} (h : isBool (E.ty T) = true) : P.underlying T = some .bool := by
  unfold isBool at h
  split at h
  · rename_i a b he
    have := (hty T _ he).2.2
    simpa [Shape] using this
  · cases h

theorem run_eqGuard_plain (op : BinOp) (t : TypeId) (x y : Operand) (a b : Value) (w : World) (h1 : ∀ u v, ¬ (a = .nilIface ∧ b = .nilIface) ∧ ¬ (a = .agg u ∧ b = .agg v)) : (eqGuard op t x y a b).run P w = .ok () w := by
  unfold eqGuard
  cases op <;> cases a <;> cases b <;> first | rfl | (exfalso; first | exact (h1 #[] #[]).1 ⟨rfl, rfl⟩ | exact (h1 _ _).2 ⟨rfl, rfl⟩)

theorem binS_sound {op : BinOp} {a b : ByteArray} {K : AV → Option R} {r : R} (h : binS op a b K = some r) (T : TypeId) :
    ∃ t, ∃ x : t.D, K (.val t x) = some r ∧ ∀ (M : Nat → Prop) (w : World), ∃ v, (binOp op T (.string a) (.string b)).run P w = .ok v w ∧ RepV M w t x v := by
  cases op <;> simp only [binS] at h <;> try (cases h; done)
  case add =>
    cases hb : decide (((a.size + b.size : Nat) : Int) > IntKind.i64.max) <;> simp only [hb, cond_true, cond_false] at h
    · exact ⟨_, _, h, fun M w => ⟨_, by simp only [binOp, Op.stringOp]; rw [if_neg (of_decide_eq_false hb)]; rfl, str_repV _ _ _⟩⟩
    · cases h
  all_goals exact ⟨_, _, h, fun M w => ⟨_, by simp only [binOp, Op.stringOp, Sem.run_pure], bool_repV _ _ _⟩⟩

theorem binK_sound {E : Env X} (hty : ∀ T ti, E.ty T = some ti → TyOk P T ti) {T : TypeId} {op : BinOp} {x y : AV} {K : AV → Option R} {r : R} (h : binK (E.ty T) op x y K = some r) :
    ∃ t, ∃ z : t.D, K (.val t z) = some r ∧ ∀ (M : Nat → Prop) (ν : Nat → Value) (dom : Nat → Prop) (obs : Obs) (w : World) (xo yo : Operand) (xv yv : Value), RepA M ν dom obs w x xv → RepA M ν dom obs w y yv →
      ∃ v, (do eqGuard op T xo yo xv yv; binOp op T xv yv : Sem Value).run P w = .ok v w ∧ RepV M w t z v := by
  unfold binK at h
  split at h
  · rename_i k a k' b
    split at h
    · rename_i hk
      obtain ⟨t, z, hK, hs⟩ := binI_sound (P := P) hk h T
      refine ⟨t, z, hK, fun M ν dom obs w xo yo xv yv hx hy => ?_⟩
      obtain ⟨v, hv, hr⟩ := hs M w
      have e1 : xv = .int k a := repV_int hx
      have e2 : yv = .int k' b := repV_int hy
      subst e1; subst e2
      exact ⟨v, by rw [Sem.run_bind, run_eqGuard_plain _ _ _ _ _ _ _ (by simp)]; exact hv, hr⟩
    · cases h
  · rename_i a b
    obtain ⟨t, z, hK, hs⟩ := binS_sound (P := P) h T
    refine ⟨t, z, hK, fun M ν dom obs w xo yo xv yv hx hy => ?_⟩
    obtain ⟨v, hv, hr⟩ := hs M w
    have e1 : xv = .string a := repV_str hx
    have e2 : yv = .string b := repV_str hy
    subst e1; subst e2
    exact ⟨v, by rw [Sem.run_bind, run_eqGuard_plain _ _ _ _ _ _ _ (by simp)]; exact hv, hr⟩
  · rename_i a b
    split at h
    · rename_i hb
      have hu := isBool_ok hty hb
      split at h
      · refine ⟨_, _, h, fun M ν dom obs w xo yo xv yv hx hy => ?_⟩
        have e1 : xv = .bool a := repV_bool hx
        have e2 : yv = .bool b := repV_bool hy
        subst e1; subst e2
        exact ⟨_, by rw [Sem.run_bind, run_eqGuard_plain _ _ _ _ _ _ _ (by simp)]; exact run_eql_bool w T a b hu, bool_repV _ _ _⟩
      · refine ⟨_, _, h, fun M ν dom obs w xo yo xv yv hx hy => ?_⟩
        have e1 : xv = .bool a := repV_bool hx
        have e2 : yv = .bool b := repV_bool hy
        subst e1; subst e2
        exact ⟨_, by rw [Sem.run_bind, run_eqGuard_plain _ _ _ _ _ _ _ (by simp)]; exact run_neq_bool w T a b hu, bool_repV _ _ _⟩
      · cases h
    · cases h
  · cases h

theorem unK_sound {op : UnOp} {x : AV} {K : AV → Option R} {r : R} (h : unK op x K = some r) :
    ∃ t, ∃ z : t.D, K (.val t z) = some r ∧ ∀ (M : Nat → Prop) (ν : Nat → Value) (dom : Nat → Prop) (obs : Obs) (w : World) (xv : Value), RepA M ν dom obs w x xv →
      ∃ v, (Op.unary op xv).run P w = .ok v w ∧ RepV M w t z v := by
  unfold unK at h
  split at h
  · rename_i k a
    refine ⟨_, _, h, fun M ν dom obs w xv hx => ?_⟩
    have e1 : xv = .int k a := repV_int hx
    subst e1
    exact ⟨_, by simp [Op.unary, Op.intArith], int_repV _ _ _ _⟩
  · rename_i k a
    refine ⟨_, _, h, fun M ν dom obs w xv hx => ?_⟩
    have e1 : xv = .int k a := repV_int hx
    subst e1
    exact ⟨_, by simp only [Op.unary]; exact run_bits .xor (by simp) _ _ _ _, int_repV _ _ _ _⟩
  · rename_i b
    refine ⟨_, _, h, fun M ν dom obs w xv hx => ?_⟩
    have e1 : xv = .bool b := repV_bool hx
    subst e1
    exact ⟨_, by simp [Op.unary], bool_repV _ _ _⟩
  · cases h

theorem convK_sound {E : Env X} (hty : ∀ T ti, E.ty T = some ti → TyOk P T ti) {s d : TypeId} {x : AV} {K : AV → Option R} {r : R} (h : convK (E.ty s) (E.ty d) x K = some r) :
    ∃ t, ∃ z : t.D, K (.val t z) = some r ∧ ∀ (M : Nat → Prop) (ν : Nat → Value) (dom : Nat → Prop) (obs : Obs) (w : World) (xv : Value), RepA M ν dom obs w x xv →
      ∃ v, (convert s d xv).run P w = .ok v w ∧ RepV M w t z v := by
  unfold convK at h
  split at h
  · rename_i k1 e1 b1 k e2 b2 k0 n hs hd
    refine ⟨_, _, h, fun M ν dom obs w xv hx => ?_⟩
    have h1 : P.underlying s = some (.int k1) := by simpa [Shape] using (hty s _ hs).2.2
    have h2 : P.underlying d = some (.int k) := by simpa [Shape] using (hty d _ hd).2.2
    have e1 : xv = .int k0 n := repV_int hx
    subst e1
    exact ⟨_, by simp [convert, run_underlying h1, run_underlying h2, Conv.intToInt], int_repV _ _ _ _⟩
  · rename_i e1 b1 e2 b2 n hs hd
    refine ⟨_, _, h, fun M ν dom obs w xv hx => ?_⟩
    have h1 : P.underlying s = some .string := by simpa [Shape] using (hty s _ hs).2.2
    have h2 : P.underlying d = some .string := by simpa [Shape] using (hty d _ hd).2.2
    have e1 : xv = .string n := repV_str hx
    subst e1
    exact ⟨_, by simp [convert, run_underlying h1, run_underlying h2], str_repV _ _ _⟩
  · cases h

/-! ### Memory -/
theorem isTy_ok {ti : Option TI} {t : Ty} (h : isTy ti t = true) : ∃ i, ti = some i ∧ i.t = t := by
  unfold isTy at h
  split at h
  · exact ⟨_, rfl, by simpa using h⟩
  · cases h

theorem run_isAgg {T : TypeId} {d : TypeDesc} (h : P.underlying T = some d) (w : World) : (isAgg T).run P w = .ok (aggB P T) w := by
  unfold aggB isAgg
  simp only [Sem.run_bind, run_underlying h, Result.andThen_ok, h]
  cases d <;> rfl

theorem TyOk.und {T : TypeId} {ti : TI} (h : TyOk P T ti) : ∃ d, P.underlying T = some d ∧ aggB P T = ti.t.isSt := by
  obtain ⟨h1, _, h3⟩ := h
  unfold Shape at h3
  cases ht : ti.t <;> simp only [ht] at h3
  case st t =>
    obtain ⟨fs, hu, _⟩ := h3
    exact ⟨_, hu, by simp [aggB, hu, Ty.isSt]⟩
  case list t => exact ⟨_, h3.1, by simp [aggB, h3.1, Ty.isSt]⟩
  all_goals exact ⟨_, h3, by simp [aggB, h3, Ty.isSt]⟩

theorem run_sizeOf {T : TypeId} {i : TypeInfo} (h : P.info? T = some i) (w : World) : (sizeOf T).run P w = .ok i.size w := by
  simp [sizeOf, typeInfo, h]

theorem run_loadVar_rep {M : Nat → Prop} {w : World} {T : TypeId} {ti : TI} (h : TyOk P T ti) {x : ti.t.D} {cs : List Value} (hr : Rep M w ti.t x cs) (a : Addr)
    (hc : ∀ j v, cs[j]? = some v → w.cell? (a.add j) = some v) : (loadVar T a).run P w = .ok (ofCells ti.t cs) w := by
  obtain ⟨d, hu, hag⟩ := h.und
  obtain ⟨i, hi, hsz, _⟩ := h.2.1
  have hl := Rep.len _ _ _ hr
  unfold loadVar
  simp only [Sem.run_bind, run_isAgg hu, Result.andThen_ok, hag]
  cases hst : ti.t.isSt
  · have h1 : cs.length = 1 := by
      rw [hl]
      have := h.1
      cases ht : ti.t <;> simp_all [Ty.sz, Ty.isSt, Ty.ok]
    obtain ⟨v, rfl⟩ : ∃ v, cs = [v] := by
      cases cs with
      | nil => simp at h1
      | cons v r => cases r with
        | nil => exact ⟨v, rfl⟩
        | cons _ _ => simp at h1
    have := hc 0 v rfl
    have ha : a.add 0 = a := by simp [Addr.add]
    rw [ha] at this
    simp [this, ofCells, hst]
  · have := run_loadCells_list (P := P) w a cs hc
    simp only [if_true, Sem.run_bind, run_sizeOf hi, Result.andThen_ok, hsz, ← hl, this, Sem.run_pure, ofCells, hst]

theorem nthD_some {t : Ty} {l : List t.D} {ix : Nat} (h : ix < l.length) : l[ix]? = some (nthD t.zero l ix) := by
  rw [nthD_eq, List.getD_eq_getElem?_getD, List.getElem?_eq_getElem h]
  rfl

/-- The cells of a part of an object, where a pointer leads to it. -/
theorem ptr_cells {M0 : Nat → Prop} {b0 : Nat → Prop} {ν : Nat → Value} {obs : Obs} {w : World} (hg : Good M0 b0 ν obs w) {id ix : Nat} {path : List Nat} {ob : Ob} (ho : obs id = some ob) {d : Dyn}
    (hix : ix < ob.l.length) (hp : getP path ob.t (nthD ob.t.zero ob.l ix) = some d) {g n c : Nat} (hν : ν id = .slice (some ⟨g, 0, none⟩) n c) :
    d.1.ok false = true ∧ ∃ cs, Rep (Msum M0 ν obs) w d.1 d.2 cs ∧ ∀ j v, cs[j]? = some v → w.cell? ((⟨g, ix * ob.t.sz + offP path ob.t, none⟩ : Addr).add j) = some v := by
  obtain ⟨hok, hsz, xs, how, hrow⟩ := hg.ob id ob ho
  have hel := hrow.2 ix _ (nthD_some hix)
  obtain ⟨k1, k2, k3⟩ := Rep.getP path ob.t _ _ d hok hel hp
  refine ⟨k1, _, k3, fun j v hj => ?_⟩
  rw [seg_seg _ _ _ _ _ k2, seg_getElem] at hj
  split at hj
  · rename_i hlt
    have := how.1.cells (g := g) (by rw [hν]; rfl) _ v hj
    rw [add_lit] at this ⊢
    rw [Nat.zero_add] at this
    rw [← this]
  · cases hj

theorem load_sound {E : Env X} (hty : ∀ T ti, E.ty T = some ti → TyOk P T ti) {cons : Bool} {T : TypeId} {ad : Operand} {K : AV → Option Ob → Option R} {r : R}
    (h : freeK E nid cons obsm ρ (.load T ad) K = some r) : ∃ av nob, K av nob = some r ∧ FreeSound P nid obsm ρ (.load T ad) av nob := by
  simp only [freeK] at h
  split at h
  · rename_i id ix path hρ
    split at h
    · rename_i ob hob
      split at h
      · rename_i d hd
        split at h
        · rename_i hT
          obtain ⟨ti, hti, htd⟩ := isTy_ok hT
          refine ⟨_, _, h, freeSound_pure fun M0 b0 ν obs dom w a o ho hg hdm hs hr => ?_⟩
          have hx := hr ad (by simp [Op.operands])
          rw [hρ] at hx
          have hob' := hs id ob hob
          obtain ⟨hix, g, n, c, hν, hv⟩ := hx.2 ob hob'
          obtain ⟨k1, cs, k2, k3⟩ := ptr_cells hg hob' hix hd hν
          have htok := hty T ti hti
          obtain ⟨dt, dx⟩ := d
          simp only at htd k1 k2
          subst htd
          have := run_loadVar_rep htok k2 _ k3
          refine ⟨ofCells ti.t cs, by simp [execOp, ho, Instr.loadAt, hv, Instr.sureAddr, this], k1, cs, k2, rfl⟩
        · cases h
      · cases h
    · cases h
  · rename_i t x hρ
    split at h
    · rename_i hT
      obtain ⟨ti, hti, htd⟩ := isTy_ok hT
      refine ⟨_, _, h, freeSound_pure fun M0 b0 ν obs dom w a o ho hg hdm hs hr => ?_⟩
      have hx := hr ad (by simp [Op.operands])
      rw [hρ] at hx
      obtain ⟨hok, a', cs, hv, _, _, k2, k3⟩ := hx
      have htok := hty T ti hti
      subst htd
      have := run_loadVar_rep htok k2 _ k3
      exact ⟨ofCells ti.t cs, by simp [execOp, ho, Instr.loadAt, hv, Instr.sureAddr, this], hok, cs, k2, rfl⟩
    · cases h
  · cases h

/-- A new variable in memory. -/
theorem newVar_sound {M0 : Nat → Prop} {b0 : Nat → Prop} {ν : Nat → Value} {obs : Obs} {w : World} (_hg : Good M0 b0 ν obs w) {T : TypeId} {t : Ty} {x : t.D} {cs : List Value} {v : Value} (hv : v.cells = cs.toArray) (hr : Rep (Msum M0 ν obs) w t x cs) :
    (newVar T v).run P w = .ok ⟨w.heap.size, 0, none⟩ (w.alloc (.cells cs.toArray T)) ∧ Below w.heap.size w (w.alloc (.cells cs.toArray T)) ∧
      (w.alloc (.cells cs.toArray T)).ownsRow 0 T t.sz (.slice (some ⟨w.heap.size, 0, none⟩) 1 1) [x].length cs ∧ RepRow (Msum M0 ν obs) w t [x] cs := by
  refine ⟨by simp [newVar, newRow, hv], (Below.refl _ _).alloc (Nat.le_refl _) _, ?_, RepRow.one hr⟩
  have := World.ownsRow_lit (w := w) (base := 0) (e := T) (size := t.sz) cs.toArray 1 (Nat.zero_le _) (by simp [maxLen]) (by simp [Rep.len _ _ _ hr])
  simpa using this

theorem ptr_rep {nid : Nat} {w' : World} {T : TypeId} {t : Ty} {x : t.D} {g : Nat} (ν' : Nat → Value) (obs' : Obs) (M : Nat → Prop) (dom' : Nat → Prop) (h1 : ν' nid = .slice (some ⟨g, 0, none⟩) 1 1) (h2 : obs' nid = some ⟨T, t, [x]⟩) (h3 : dom' nid) :
    RepA M ν' dom' obs' w' (.ptr nid 0 []) (.pointer (some ⟨g, 0, none⟩)) := by
  refine ⟨h3, fun ob ho => ?_⟩
  rw [h2] at ho
  simp only [Option.some.injEq] at ho
  subst ho
  exact ⟨by simp, g, 1, 1, h1, by simp [offP]⟩

theorem alloc_sound {E : Env X} (hty : ∀ T ti, E.ty T = some ti → TyOk P T ti) {cons : Bool} {T : TypeId} {K : AV → Option Ob → Option R} {r : R}
    (h : freeK E nid cons obsm ρ (.alloc T) K = some r) : ∃ av nob, K av nob = some r ∧ FreeSound P nid obsm ρ (.alloc T) av nob := by
  simp only [freeK] at h
  split at h
  · rename_i i hi
    split at h
    · cases h
    · rename_i hsz
      have htok := hty T i hi
      refine ⟨_, _, h, freeSound_new htok.1 (Nat.pos_of_ne_zero hsz) fun M0 b0 ν obs dom w a o ho hg hdm hs hr => ?_⟩
      obtain ⟨inf, hinf, _, z, hz, hzc⟩ := htok.2.1
      obtain ⟨h1, h2, h3, h4⟩ := newVar_sound (P := P) hg (T := T) (v := z) (by rw [← hzc]) (Rep.zcells (Msum M0 ν obs) w i.t)
      exact ⟨_, _, _, _, by simp [execOp, ho, Instr.alloc, zeroValue, typeInfo, hinf, hz, h1], h2, h3, h4, by simp [Value.ownBlock], fun ν' obs' M dom' e1 e2 e3 => ptr_rep ν' obs' M dom' e1 e2 e3⟩
  · cases h

theorem box_sound {E : Env X} (hty : ∀ T ti, E.ty T = some ti → TyOk P T ti) {cons : Bool} {T : TypeId} {x : Operand} {K : AV → Option Ob → Option R} {r : R}
    (h : freeK E nid cons obsm ρ (.box T x) K = some r) : ∃ av nob, K av nob = some r ∧ FreeSound P nid obsm ρ (.box T x) av nob := by
  simp only [freeK] at h
  split at h
  · rename_i i hi
    split at h
    · cases h
    · rename_i hsz
      split at h
      · rename_i d hd
        split at h
        · rename_i y hy
          have htok := hty T i hi
          refine ⟨_, _, h, freeSound_new htok.1 (Nat.pos_of_ne_zero hsz) fun M0 b0 ν obs dom w a o ho hg hdm hs hr => ?_⟩
          have hx := toDyn_rep hd (hr x (by simp [Op.operands]))
          obtain ⟨e, he⟩ := castD_eq hy
          obtain ⟨dt, dx⟩ := d
          simp only at e he hx
          subst e
          simp only at he
          subst he
          obtain ⟨hok, cs, hc, hv⟩ := hx
          obtain ⟨h1, h2, h3, h4⟩ := newVar_sound (P := P) hg (T := T) (v := a.eval x) (by rw [hv]; exact ofCells_cells hok hc) hc
          exact ⟨_, _, _, _, by simp [execOp, ho, Instr.box, h1], h2, h3, h4, by simp [Value.ownBlock], fun ν' obs' M dom' e1 e2 e3 => ptr_rep ν' obs' M dom' e1 e2 e3⟩
        · cases h
      · cases h
  · cases h

end Go.FK
