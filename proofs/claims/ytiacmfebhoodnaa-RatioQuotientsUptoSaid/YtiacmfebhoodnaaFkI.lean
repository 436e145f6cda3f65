/- Operations that write nothing that is there, fourth part: rows that are made, cuts, fields, elements. -/
import Derived.Test.YtiacmfebhoodnaaFkH
namespace Go.FK
open Go.RowKit

variable {P : Program} {nid : Nat} {obsm : Obs} {ρ : Operand → AV} {X R : Type}

theorem TyOk.list {T : TypeId} {ti : TI} {t : Ty} (h : TyOk P T ti) (ht : ti.t = .list t) : P.underlying T = some (.slice ti.el) ∧ ElemOk P ti.el t ti.eb ∧ t.ok false = true := by
  obtain ⟨h1, _, h3⟩ := h
  unfold Shape at h3
  rw [ht] at h1 h3
  exact ⟨h3.1, h3.2, by simpa [Ty.ok] using h1⟩

theorem setElems_sound {M : Nat → Prop} {ν : Nat → Value} {dom : Nat → Prop} {obs : Obs} {w : World} {ev : Operand → Value} {t : Ty} (ht : t.ok false = true) :
    ∀ (ps : List (Nat × Operand)) (l l' : List t.D) (cells : Array Value), (∀ p ∈ ps, RepA M ν dom obs w (ρ p.2) (ev p.2)) → RepRow M w t l cells.toList → setElems t l (ps.map fun p => (p.1, ρ p.2)) = some l' →
      l'.length = l.length ∧ ∃ cells', Instr.fill (fun i => some (i * t.sz, t.sz)) cells (ps.map fun p => (p.1, ev p.2)) = some cells' ∧ RepRow M w t l' cells'.toList
  | [], l, l', cells, _, hr, h => by
    simp only [List.map_nil, setElems, Option.some.injEq] at h
    subst h
    exact ⟨rfl, cells, rfl, hr⟩
  | p :: ps, l, l', cells, hp, hr, h => by
    simp only [List.map_cons, setElems] at h
    split at h
    · rename_i d hd
      split at h
      · rename_i y hy
        split at h
        · rename_i hlt
          have hv := toDyn_rep hd (hp p (by simp))
          obtain ⟨e, he⟩ := castD_eq hy
          obtain ⟨dt, dx⟩ := d
          simp only at e he hv
          subst e
          simp only at he
          subst he
          obtain ⟨_, cs, hc, hev⟩ := hv
          have hcells : (ev p.2).cells = cs.toArray := by rw [hev]; exact ofCells_cells ht hc
          have hl := Rep.len _ _ _ hc
          have hb := mul_le p.1 l.length dt.sz hlt
          have hlen := hr.1
          obtain ⟨cells', e1, e2⟩ := fill_step (fun i => some (i * dt.sz, dt.sz)) cells p.1 (ev p.2) (ps.map fun p => (p.1, ev p.2)) (p.1 * dt.sz) dt.sz rfl (by simp [hcells, hl]) (by simp at hlen; omega)
          have hr' : RepRow M w dt (setN dx l p.1) cells'.toList := by
            rw [setN_eq, e2, hcells]
            have := hr.set hlt (y := dx) (o := 0) (vs := cs) (by omega) (by rw [splice_whole _ _ (by simp [seg]; simp at hlen; omega)]; exact hc)
            simpa using this
          obtain ⟨k1, cells'', e3, e4⟩ := setElems_sound ht ps _ l' cells' (fun q hq => hp q (by simp [hq])) hr' h
          exact ⟨by rw [k1, length_setN], cells'', by simp only [List.map_cons]; rw [e1, e3], e4⟩
        · cases h
      · cases h
    · cases h

theorem made_row (M : Nat → Prop) (w : World) {t : Ty} (_hs : 0 < t.sz) (n : Nat) {z : Array Value} (hz : z.toList = t.zcells) : RepRow M w t (List.replicate n t.zero) (madeCells z (n * t.sz)).toList := by
  have hzl := Rep.len _ _ _ (Rep.zcells M w t)
  have hzs : z.size = t.sz := by rw [← Array.length_toList, hz, hzl]
  refine RepRow.replicate M w t n _ (by simp [size_madeCells]) fun i j hi hj => ?_
  have hb := mul_le i n t.sz hi
  have h1 : (madeCells z (n * t.sz)).toList[i * t.sz + j]? = some (z[(i * t.sz + j) % z.size]!) := by
    simp only [madeCells, Array.toList_map, List.getElem?_map]
    rw [Array.toList_range, List.getElem?_range (by omega)]
    rfl
  have h2 : (i * t.sz + j) % z.size = j := by
    rw [hzs, Nat.add_comm, Nat.add_mul_mod_self_right, Nat.mod_eq_of_lt hj]
  rw [h1, h2, ← hz, Array.getElem?_toList, getElem!_pos z j (by omega), Array.getElem?_eq_getElem (by omega)]

theorem own_list_new {M0 : Nat → Prop} {b0 : Nat → Prop} {ν : Nat → Value} {obs : Obs} {w w' : World} (hg : Good M0 b0 ν obs w) (hb : Below w.heap.size w w') {e : TypeId} {t : Ty} {l : List t.D} {v : Value} {xs : List Value} (_hs : 0 < t.sz)
    (how : w'.ownsRow 0 e t.sz v l.length xs) (hr : RepRow (Msum M0 ν obs) w t l xs) (hnew : ∀ b, v.ownBlock = some b → w.heap.size ≤ b) (ht : t.ok false = true) : RepV (Msum M0 ν obs) w' (.list t) l v := by
  refine ⟨by simpa [Ty.ok] using ht, _, RepRow.list how (hr.next (Agree.of_below hb) (fun _ _ h => h)) (fun b hb' hm => ?_), by simp [ofCells, Ty.isSt]⟩
  have := hnew b hb'
  rcases hm with hm | ⟨id, ob, ho, hv⟩
  · exact hg.m0 b hm (hg.hb b this)
  · obtain ⟨_, _, ys, h3, _⟩ := hg.ob id ob ho
    have := (h3.1.lt b hv).2
    omega

theorem freeSound_frozen {op : Op} {t : Ty} {l : List t.D} (hok : t.ok false = true) (hsz : 0 < t.sz)
    (h : ∀ (M0 : Nat → Prop) (b0 : Nat → Prop) (ν : Nat → Value) (obs : Obs) (dom : Nat → Prop) (w : World) (a : Act) (o : Oper), o.op = op → Good M0 b0 ν obs w → (∀ id ob, obs id = some ob → dom id) →
      (∀ id ob, obsm id = some ob → obs id = some ob) → (∀ x ∈ op.operands, RepA (Msum M0 ν obs) ν dom obs w (ρ x) (a.eval x)) →
      ∃ v w' e xs, (execOp a.eval o).run P w = .ok (.value v) w' ∧ Below w.heap.size w w' ∧ w'.ownsRow 0 e t.sz v l.length xs ∧ RepRow (Msum M0 ν obs) w t l xs ∧
        (∀ b, v.ownBlock = some b → w.heap.size ≤ b)) : FreeSound P nid obsm ρ op (.val (.list t) l) none := by
  intro M0 b0 ν obs dom w a o ho hg hd hs hr hn hnd next Q hK
  obtain ⟨v, w', e, xs, hv, hb, how, hrow, hnew⟩ := h M0 b0 ν obs dom w a o ho hg hd hs hr
  obtain ⟨hL, hG⟩ := hg.same hn hb
  have hrep := own_list_new hg hb hsz how hrow hnew hok
  refine wp_value hv (hK v w' ν hL hG ?_)
  exact RepV.next (Agree.refl _ _) (fun b hb' hm => by
    rcases hm with hm | ⟨id, ob, ho, hv⟩
    · exact .inl hm
    · unfold upd at ho
      split at ho
      · cases ho
      · exact .inr ⟨id, ob, ho, hv⟩) hrep

theorem buildSlice_sound {E : Env X} (hty : ∀ T ti, E.ty T = some ti → TyOk P T ti) {cons : Bool} {T : TypeId} {len : Nat} {ps : Array (Nat × Operand)} {K : AV → Option Ob → Option R} {r : R}
    (h : freeK E nid cons obsm ρ (.buildSlice T len ps) K = some r) : ∃ av nob, K av nob = some r ∧ FreeSound P nid obsm ρ (.buildSlice T len ps) av nob := by
  simp only [freeK] at h
  split at h
  · rename_i t el eb hti
    split at h
    · cases h
    · rename_i hsz
      simp only [Bool.or_eq_true, decide_eq_true_eq, not_or] at hsz
      split at h
      · rename_i l hl
        obtain ⟨hu, ⟨i, hi, hisz, hib, z, hz, hzc⟩, hok⟩ := (hty T _ hti).list rfl
        simp only at hu hi hib
        have hpos : 0 < t.sz := by omega
        have key : ∀ (M0 : Nat → Prop) (b0 : Nat → Prop) (ν : Nat → Value) (obs : Obs) (dom : Nat → Prop) (w : World) (a : Act) (o : Oper), o.op = .buildSlice T len ps → Good M0 b0 ν obs w → (∀ id ob, obs id = some ob → dom id) →
            (∀ id ob, obsm id = some ob → obs id = some ob) → (∀ x ∈ (Op.buildSlice T len ps).operands, RepA (Msum M0 ν obs) ν dom obs w (ρ x) (a.eval x)) →
            ∃ v w' xs, (execOp a.eval o).run P w = .ok (.value v) w' ∧ Below w.heap.size w w' ∧ w'.ownsRow 0 el t.sz v l.length xs ∧ RepRow (Msum M0 ν obs) w t l xs ∧ (∀ b, v.ownBlock = some b → w.heap.size ≤ b) := by
          intro M0 b0 ν obs dom w a o ho hg hdm hs hr
          have h0 := made_row (Msum M0 ν obs) w hpos len hzc
          obtain ⟨hll, cells, e1, e2⟩ := setElems_sound (ev := a.eval) hok ps.toList _ l (madeCells z.cells (len * t.sz)) (fun p hp => hr p.2 (by simp [Op.operands]; exact ⟨p.1, by simpa using hp⟩)) h0 hl
          simp only [List.length_replicate] at hll
          have hcs : cells.size = len * t.sz := by have := e2.1; simp only [Array.length_toList, hll] at this; exact this
          have hlen16 : len ≤ 16777216 := by
            have h1 : len * 1 ≤ len * t.sz := Nat.mul_le_mul_left _ hpos
            omega
          have hown := World.ownsRow_lit (w := w) (base := 0) (e := el) (size := t.sz) cells len (Nat.zero_le _) (by simp [maxLen]; omega) hcs
          refine ⟨_, _, _, ?_, (Below.refl _ _).alloc (Nat.le_refl _) _, by rw [hll]; exact hown, e2, by simp [Value.ownBlock]⟩
          have e1' : Instr.fill (fun i => some (i * t.sz, t.sz)) (madeCells z.cells (len * t.sz)) (ps.map fun x => (x.1, a.eval x.2)).toList = some cells := by simpa using e1
          have hmc : (Array.range (len * t.sz)).map (fun x => z.cells[x % z.cells.size]!) = madeCells z.cells (len * t.sz) := rfl
          have hrun : (Instr.buildSlice T len (ps.map fun x => (x.1, a.eval x.2))).run P w = .ok (.slice (some ⟨w.heap.size, 0, none⟩) len len) (w.alloc (.cells cells el)) := by
            have hn : (newRow el cells).run P w = .ok ⟨w.heap.size, 0, none⟩ (w.alloc (.cells cells el)) := by simp [newRow]
            unfold Instr.buildSlice
            simp only [Sem.run_bind, run_underlying hu, Result.andThen_ok, run_sizeOf hi, hisz]
            rw [if_neg (show ¬ (len * t.sz > 2 ^ 24) by omega)]
            by_cases hl0 : len * t.sz = 0
            · have hlen0 : len = 0 := by
                rcases Nat.mul_eq_zero.1 hl0 with h | h
                · exact h
                · omega
              have hm0 : (Array.range (len * t.sz)).map (fun x => (#[] : Array Value)[x % (#[] : Array Value).size]!) = madeCells z.cells (len * t.sz) := by
                rw [hl0]; simp [madeCells, Array.range_zero']
              simp only [hl0, if_true, Sem.run_bind, Sem.run_pure, Result.andThen_ok]
              rw [hl0] at hm0 e1'
              rw [hm0, e1']
              simp only [Sem.run_bind, hn, Result.andThen_ok, Sem.run_pure]
            · have hzv : (zeroValue el).run P w = .ok z w := by simp [zeroValue, typeInfo, hi, hz]
              simp only [hl0, if_false, Sem.run_bind, hzv, Result.andThen_ok, Sem.run_pure]
              rw [hmc, e1']
              simp only [Sem.run_bind, hn, Result.andThen_ok, Sem.run_pure]
          simp [execOp, ho, hrun]
        cases hc : cons <;> simp only [hc, cond_true, cond_false] at h
        · refine ⟨_, _, h, freeSound_new hok hpos fun M0 b0 ν obs dom w a o ho hg hdm hs hr => ?_⟩
          obtain ⟨v, w', xs, k1, k2, k3, k4, k5⟩ := key M0 b0 ν obs dom w a o ho hg hdm hs hr
          exact ⟨v, w', v, xs, k1, k2, k3, k4, k5, fun ν' obs' M dom' e1 e2 e3 => ⟨e3, e1.symm⟩⟩
        · refine ⟨_, _, h, freeSound_frozen hok hpos fun M0 b0 ν obs dom w a o ho hg hdm hs hr => ?_⟩
          obtain ⟨v, w', xs, k1, k2, k3, k4, k5⟩ := key M0 b0 ν obs dom w a o ho hg hdm hs hr
          exact ⟨v, w', el, xs, k1, k2, k3, k4, k5⟩
      · cases h
  · cases h

theorem makeSlice_sound {E : Env X} (hty : ∀ T ti, E.ty T = some ti → TyOk P T ti) {cons : Bool} {T : TypeId} {lo co : Operand} {K : AV → Option Ob → Option R} {r : R}
    (h : freeK E nid cons obsm ρ (.makeSlice T lo co) K = some r) : ∃ av nob, K av nob = some r ∧ FreeSound P nid obsm ρ (.makeSlice T lo co) av nob := by
  simp only [freeK] at h
  split at h
  · rename_i hsame
    split at h
    · rename_i t el eb n hti hρ
      split at h
      · cases h
      · rename_i hsz
        have hpos : 0 < t.sz := Nat.pos_of_ne_zero hsz
        obtain ⟨hu, ⟨i, hi, hisz, hib, z, hz, hzc⟩, hok⟩ := (hty T _ hti).list rfl
        simp only at hu hi hib
        cases hb : (decide (0 ≤ n) && decide (n * eb ≤ 281474976710656) && decide (n ≤ 9223372036854775807)) <;> simp only [hb, cond_true, cond_false] at h
        · cases h
        · simp only [Bool.and_eq_true, decide_eq_true_eq] at hb
          obtain ⟨⟨hn0, hnb⟩, hn63⟩ := hb
          obtain ⟨m, rfl⟩ := Int.eq_ofNat_of_zero_le hn0
          simp only [Int.toNat_natCast] at h
          have hn63' : (m : Int) ≤ 9223372036854775807 := hn63
          have key : ∀ (M0 : Nat → Prop) (b0 : Nat → Prop) (ν : Nat → Value) (obs : Obs) (dom : Nat → Prop) (w : World) (a : Act) (o : Oper), o.op = .makeSlice T lo co → Good M0 b0 ν obs w →
              (∀ x ∈ (Op.makeSlice T lo co).operands, RepA (Msum M0 ν obs) ν dom obs w (ρ x) (a.eval x)) →
              ∃ v w' xs, (execOp a.eval o).run P w = .ok (.value v) w' ∧ Below w.heap.size w w' ∧ w'.ownsRow 0 el t.sz v (List.replicate m t.zero).length xs ∧ RepRow (Msum M0 ν obs) w t (List.replicate m t.zero) xs ∧ (∀ b, v.ownBlock = some b → w.heap.size ≤ b) := by
            intro M0 b0 ν obs dom w a o ho hg hr
            have hl := hr lo (by simp [Op.operands])
            rw [hρ] at hl
            have el1 : a.eval lo = .int .i64 (m : Int) := repV_int hl
            have ec1 : a.eval co = .int .i64 (m : Int) := by
              rw [← el1]
              unfold sameOp at hsame
              split at hsame
              · simp only [beq_iff_eq] at hsame; rw [hsame]
              · simp only [Bool.and_eq_true, beq_iff_eq] at hsame; rw [hsame.1, hsame.2]
              · cases hsame
            have hbn : i.bytes * m ≤ 281474976710656 := by
              rw [hib]
              have : ((m * eb : Nat) : Int) ≤ 281474976710656 := by rw [Int.natCast_mul]; exact hnb
              rw [Nat.mul_comm]; omega
            obtain ⟨w', k1, k2, k3⟩ := run_make_full (P := P) w 0 T el i z t.sz hu hi hz hisz .i64 .i64 m hbn (by simp [maxLen]; omega) (Nat.zero_le _)
            refine ⟨.slice (some ⟨w.heap.size, 0, none⟩) m m, w', _, by simp [execOp, ho, el1, ec1, k1], (Below.refl _ _).grown k3 (Nat.le_refl _) (by simp), by simpa using k2, made_row _ _ hpos m hzc, by simp [Value.ownBlock]⟩
          cases hc : cons <;> simp only [hc, cond_true, cond_false] at h
          · refine ⟨_, _, h, freeSound_new hok hpos fun M0 b0 ν obs dom w a o ho hg hdm hs hr => ?_⟩
            obtain ⟨v, w', xs, k1, k2, k3, k4, k5⟩ := key M0 b0 ν obs dom w a o ho hg hr
            exact ⟨v, w', v, xs, k1, k2, k3, k4, k5, fun ν' obs' M dom' e1 e2 e3 => ⟨e3, e1.symm⟩⟩
          · refine ⟨_, _, h, freeSound_frozen hok hpos fun M0 b0 ν obs dom w a o ho hg hdm hs hr => ?_⟩
            obtain ⟨v, w', xs, k1, k2, k3, k4, k5⟩ := key M0 b0 ν obs dom w a o ho hg hr
            exact ⟨v, w', el, xs, k1, k2, k3, k4, k5⟩
    · cases h
  · cases h

end Go.FK
