/- append and copy; all operations that write. -/
import Derived.Test.YtiacmfebhoodnaaFkM
namespace Go.FK
open Go.RowKit

variable {P : Program} {ρ : Operand → AV} {X R : Type}

theorem two_args {α β : Type} {f : α → β} {a : Array α} {b c : β} (e : a.toList.map f = [b, c]) : ∃ x y, a = #[x, y] ∧ f x = b ∧ f y = c := by
  obtain ⟨l⟩ := a
  match l, e with
  | [x, y], e => simp only [List.map_cons, List.map_nil, List.cons.injEq, and_true] at e; exact ⟨x, y, rfl, e.1, e.2⟩

/-- The end of an append: a new object, or data. -/
theorem append_end {E : Env X} (hty : ∀ T ti, E.ty T = some ti → TyOk P T ti) {cons : Bool} {obs : List (Option Ob)} {sx xx : Operand} {T T' : TypeId} {t t' : Ty} {el el' eb eb' : Nat} {K : AV → List (Option Ob) → Option R} {r : R}
    (hT : E.ty T = some ⟨.list t, el, eb⟩) (hT' : E.ty T' = some ⟨.list t', el', eb'⟩) (hsz : 0 < t.sz) (dead : Option Nat) (l m : List t.D)
    (hx : ∀ (M : Nat → Prop) (ν : Nat → Value) (dom : Nat → Prop) (o : Obs) (w : World) (v : Value), RepA M ν dom o w (ρ xx) v → RepV M w (.list t) m v)
    (hs : ∀ (M0 : Nat → Prop) (b0 : Nat → Prop) (ν : Nat → Value) (w : World) (v : Value), Good M0 b0 ν (obF obs) w → RepA (Msum M0 ν (obF obs)) ν (· < obs.length) (obF obs) w (ρ sx) v →
      ∃ xs, owns b0 w el t.sz v l.length xs ∧ RepRow (Msum M0 ν (obF obs)) w t l xs ∧ (∀ id, dead = some id → ∃ ob, obF obs id = some ob ∧ v = ν id) ∧ (dead = none → v.ownBlock = none))
    (hb : ((l.length : Int) + m.length) * eb ≤ 140737488355328) (h63 : (l.length : Int) + m.length ≤ 9223372036854775807)
    (hK : (bif cons then K (.val (.list t) (l ++ m)) (killL obs dead ++ [none])
      else K (.own obs.length) (killL obs dead ++ [some ⟨el, t, l ++ m⟩])) = some r) (hdl : ∀ id, dead = some id → id < obs.length) :
    ∃ av obs', K av obs' = some r ∧ EffSound P obs ρ (.call ⟨.builtin .append, #[sx, xx], #[T, T']⟩) av obs' := by
  obtain ⟨hu, ⟨i, hi, hisz, hib, z, hz, hzc⟩, hok⟩ := (hty T _ hT).list rfl
  obtain ⟨hu', _, _⟩ := (hty T' _ hT').list rfl
  simp only at hu hi hib hu'
  have hb' : (l.length + m.length) * eb ≤ 140737488355328 := by
    have : (((l.length + m.length) * eb : Nat) : Int) ≤ 140737488355328 := by push_cast; exact hb
    omega
  have h63' : l.length + m.length ≤ maxLen := by simp only [maxLen]; omega
  have hlen : ∀ o : Option Ob, (killL obs dead ++ [o]).length = obs.length + 1 := by
    intro o
    cases dead with
    | none => simp [killL]
    | some d => simp [killL, length_setN]
  have hF : ∀ o : Option Ob, obF (killL obs dead ++ [o]) = upd (killF (obF obs) dead) obs.length o := by
    intro o
    cases dead with
    | none => exact obF_snoc obs o
    | some d =>
      have := obF_snoc (setN none obs d) o
      rw [length_setN, obF_set _ _ _ (hdl d rfl)] at this
      exact this
  -- the run
  have key : ∀ (M0 : Nat → Prop) (b0 : Nat → Prop) (ν : Nat → Value) (w : World) (a : Act) (o : Oper), o.op = .call ⟨.builtin .append, #[sx, xx], #[T, T']⟩ → Good M0 b0 ν (obF obs) w →
      (∀ x ∈ (Op.call ⟨.builtin .append, #[sx, xx], #[T, T']⟩).operands, RepA (Msum M0 ν (obF obs)) ν (· < obs.length) (obF obs) w (ρ x) (a.eval x)) →
      ∃ v' w' ys, (execOp a.eval o).run P w = .ok (.value v') w' ∧ owns b0 w' el t.sz v' (l ++ m).length ys ∧ RepRow (Msum M0 ν (obF obs)) w t (l ++ m) ys ∧
        ∀ nob : Option Ob, (∀ ob, nob = some ob → ob = ⟨el, t, l ++ m⟩) →
          After M0 b0 ν (fun id => if id = obs.length then v' else ν id) obs.length (obF obs) (upd (killF (obF obs) dead) obs.length nob) w w' ∧
          (∀ b, v'.ownBlock = some b → ¬ Msum M0 (fun id => if id = obs.length then v' else ν id) (upd (killF (obF obs) dead) obs.length none) b) := by
    intro M0 b0 ν w a o ho hg hr
    have hs' := hr sx (by simp [Op.operands, Call.operands])
    have hx' := hr xx (by simp [Op.operands, Call.operands])
    obtain ⟨xs, how, hrow, hd1, hd2⟩ := hs M0 b0 ν w _ hg hs'
    obtain ⟨v', w', ys, h1, h2, h2', h3, h5⟩ := run_append_list (P := P) b0 (ty := o.type) hu hu' hi hz hisz hib hzc hsz (a.eval sx) l m xs how hrow (hx _ _ _ _ _ _ hx') h63' hb' hg.hb
    refine ⟨v', w', ys, by simp [execOp, ho, resolve, invoke, builtin, h1], h2, h2', fun nob hnob => ?_⟩
    have haf := fun nob (hn : ∀ ob, nob = some ob → ob = (⟨el, t, l ++ m⟩ : Ob)) => moved_after hg dead (a.eval sx) hd1 hd2 h3 how.2 nob v' (fun ob e => by
      rw [hn ob e]; exact ⟨hok, hsz, ys, h2, h2'⟩) h5
    refine ⟨haf nob hnob, fun b hb hm => ?_⟩
    have hA := haf (some ⟨el, t, l ++ m⟩) (fun ob e => by simpa using e.symm)
    rcases hm with hm | ⟨j, oj, hj, hbj⟩
    · exact hg.m0 b hm (h2.2 b hb)
    · by_cases e : j = obs.length
      · simp [upd, e] at hj
      · refine hA.good.ne obs.length j ⟨el, t, l ++ m⟩ oj (by simp [upd]) ?_ (fun h => e h.symm) b (by simpa using hb) hbj
        simp only [upd, if_neg e] at hj ⊢
        exact hj
  cases hc : cons <;> simp only [hc, cond_true, cond_false] at hK
  · refine ⟨_, _, hK, hlen _, fun M0 b0 ν w a o ho hg hr next Q hn => ?_⟩
    obtain ⟨v', w', ys, k1, k2, k3, k4⟩ := key M0 b0 ν w a o ho hg hr
    rw [hF] at hn
    exact wp_value k1 (hn v' w' _ (k4 _ (fun ob e => by simpa using e.symm)).1 ⟨Nat.lt_succ_self _, by simp⟩)
  · refine ⟨_, _, hK, hlen _, fun M0 b0 ν w a o ho hg hr next Q hn => ?_⟩
    obtain ⟨v', w', ys, k1, k2, k3, k4⟩ := key M0 b0 ν w a o ho hg hr
    rw [hF] at hn
    obtain ⟨hA, hne⟩ := k4 none (fun ob e => by cases e)
    refine wp_value k1 (hn v' w' _ hA ?_)
    -- the row as data
    have hA2 := (k4 (some ⟨el, t, l ++ m⟩) (fun ob e => by simpa using e.symm)).1
    obtain ⟨_, _, zs, q3, q4⟩ := hA2.good.ob obs.length ⟨el, t, l ++ m⟩ (by simp [upd])
    simp only [if_true] at q3
    refine ⟨by simpa [Ty.ok] using hok, [v'], RepRow.list q3.1 (q4.next (Agree.refl _ _) (fun b _ hm => ?_)) hne, by simp [ofCells, Ty.isSt]⟩
    rcases hm with hm | ⟨j, oj, hj, hbj⟩
    · exact .inl hm
    · by_cases e : j = obs.length
      · simp [upd, e] at hj
      · refine .inr ⟨j, oj, ?_, hbj⟩
        simp only [upd, if_neg e] at hj ⊢
        exact hj

theorem repA_list {ρx : AV} {t u : Ty} {l : List u.D} {m : List t.D} (h1 : toDyn (.list t) ρx = some ⟨.list u, l⟩) (h2 : castD (.list u) (.list t) l = some m) (M : Nat → Prop) (ν : Nat → Value) (dom : Nat → Prop) (o : Obs) (w : World) (v : Value)
    (hr : RepA M ν dom o w ρx v) : RepV M w (.list t) m v := by
  have := toDyn_rep h1 hr
  obtain ⟨e, he⟩ := castD_eq h2
  have e' : u = t := by simpa using e
  subst e'
  simp only at he
  subst he
  exact this

theorem append_sound {E : Env X} (hty : ∀ T ti, E.ty T = some ti → TyOk P T ti) {cons : Bool} {obs : List (Option Ob)} {xs : Array Operand} {ats : Array TypeId} {K : AV → List (Option Ob) → Option R} {r : R}
    (h : effK E cons obs ρ (.call ⟨.builtin .append, xs, ats⟩) K = some r) : ∃ av obs', K av obs' = some r ∧ EffSound P obs ρ (.call ⟨.builtin .append, xs, ats⟩) av obs' := by
  simp only [effK] at h
  split at h
  · rename_i s x t el eb t' el' eb' _ h1 h2
    obtain ⟨sx, xx, rfl, hs, hx⟩ := two_args h1
    obtain ⟨T, T', rfl, hT, hT'⟩ := two_args h2
    split at h
    · cases h
    · rename_i hc
      simp only [Bool.or_eq_true, decide_eq_true_eq, Bool.not_eq_true', decide_eq_false_iff_not, not_or] at hc
      have hsz : 0 < t.sz := by omega
      obtain ⟨hu, _, hok⟩ := (hty T _ hT).list rfl
      split at h
      · rename_i u m hm
        split at h
        · rename_i m' hm'
          have hxx : ∀ (M : Nat → Prop) (ν : Nat → Value) (dom : Nat → Prop) (o : Obs) (w : World) (v : Value), RepA M ν dom o w (ρ xx) v → RepV M w (.list t) m' v := fun M ν dom o w v hr => repA_list (by rw [hx]; exact hm) hm' M ν dom o w v hr
          split at h
          · obtain ⟨hK, hb, h63⟩ := app_bound h
            refine append_end hty hT hT' hsz none [] m' hxx (fun M0 b0 ν w v hg hr => ?_) (by simpa using hb) (by simpa using h63) (by simpa [killL] using hK) (fun id e => by cases e)
            rw [hs] at hr
            have : v = .slice none 0 0 := hr
            subst this
            exact ⟨[], ⟨World.ownsRow_nil w 0 el t.sz, fun b hb => by cases hb⟩, RepRow.nil _ _ _, (fun id e => by cases e), fun _ => rfl⟩
          · rename_i id
            split at h
            · rename_i ob hob
              split at h
              · rename_i l hl
                split at h
                · rename_i hoe
                  obtain ⟨hK, hb, h63⟩ := app_bound h
                  have hobF : obF obs id = some ob := hob
                  refine append_end hty hT hT' hsz (some id) l m' hxx (fun M0 b0 ν w v hg hr => ?_) hb h63 hK (fun id' e => by simp only [Option.some.injEq] at e; subst e; exact obF_lt hobF)
                  rw [hs] at hr
                  obtain ⟨_, rfl⟩ := hr
                  obtain ⟨_, _, ys, q3, q4⟩ := hg.ob id ob hobF
                  obtain ⟨e, he⟩ := castD_eq hl
                  obtain ⟨oe, ot, ol⟩ := ob
                  simp only at e he q3 q4 hoe
                  have e' : ot = t := by simpa using e
                  subst e'
                  simp only at he
                  subst he
                  subst hoe
                  exact ⟨ys, q3, q4, (fun id' e => by simp only [Option.some.injEq] at e; subst e; exact ⟨_, hobF, rfl⟩), fun e => by cases e⟩
                · cases h
              · cases h
            · cases h
          · cases h
        · cases h
      · cases h
  · simp at *
  · cases h

theorem take_drop_len {α : Type} (m l : List α) : (m.take l.length ++ l.drop m.length).length = l.length := by
  simp only [List.length_append, List.length_take, List.length_drop]
  omega

/-- A row of one-cell elements, a list laid over its head. -/
theorem RepRow.over {M : Nat → Prop} {w : World} {t : Ty} (h1 : t.sz = 1) {l m : List t.D} {xs ms : List Value} (h : RepRow M w t l xs) (k : RepRow M w t m ms) :
    RepRow M w t (m.take l.length ++ l.drop m.length) (splice xs 0 (ms.take l.length)) := by
  have hx := h.1
  have hm := k.1
  rw [h1, Nat.mul_one] at hx hm
  have hsl : 0 + (ms.take l.length).length ≤ xs.length := by simp; omega
  refine ⟨by rw [splice_len _ _ _ hsl, hx, take_drop_len, h1, Nat.mul_one], fun i x hi => ?_⟩
  rw [h1, Nat.mul_one]
  by_cases c : i < min m.length l.length
  · have hx' : m[i]? = some x := by
      rw [List.getElem?_append_left (by simp; omega), List.getElem?_take, if_pos (by omega)] at hi
      exact hi
    have := k.2 i x hx'
    rw [h1, Nat.mul_one] at this
    have e : seg (splice xs 0 (ms.take l.length)) i 1 = seg ms i 1 := by
      apply List.ext_getElem?
      intro j
      rw [seg_getElem, seg_getElem, splice_get _ _ _ hsl]
      by_cases cj : j < 1
      · have : j = 0 := by omega
        subst this
        rw [if_pos cj, if_pos cj, if_neg (by omega), if_pos (by simp; omega), List.getElem?_take, if_pos (by omega)]
        simp
      · rw [if_neg cj, if_neg cj]
    rw [e]
    exact this
  · have hi' : l[i]? = some x := by
      rw [List.getElem?_append_right (by simp; omega), List.getElem?_drop] at hi
      have e : m.length + (i - (m.take l.length).length) = i := by
        simp only [List.length_take]
        by_cases c2 : m.length ≤ l.length
        · omega
        · exfalso
          have hlt : i - (List.take l.length m).length < (l.drop m.length).length ∨ (l.drop m.length)[i - (List.take l.length m).length]? = none := by
            rcases Nat.lt_or_ge (i - (List.take l.length m).length) (l.drop m.length).length with h | h
            · exact .inl h
            · exact .inr (List.getElem?_eq_none h)
          rcases hlt with h | h
          · simp at h; omega
          · rw [List.getElem?_drop] at h; rw [h] at hi; cases hi
      rw [e] at hi
      exact hi
    have := h.2 i x hi'
    rw [h1, Nat.mul_one] at this
    have hil : i < l.length := by
      rcases Nat.lt_or_ge i l.length with h | h
      · exact h
      · rw [List.getElem?_eq_none h] at hi'; cases hi'
    have e : seg (splice xs 0 (ms.take l.length)) i 1 = seg xs i 1 := by
      apply List.ext_getElem?
      intro j
      rw [seg_getElem, seg_getElem, splice_get _ _ _ hsl]
      by_cases cj : j < 1
      · have : j = 0 := by omega
        subst this
        rw [if_pos cj, if_pos cj, if_neg (by omega), if_neg (by simp; omega)]
      · rw [if_neg cj, if_neg cj]
    rw [e]
    exact this

theorem copy_sound {E : Env X} (hty : ∀ T ti, E.ty T = some ti → TyOk P T ti) {cons : Bool} {obs : List (Option Ob)} {xs : Array Operand} {ats : Array TypeId} {K : AV → List (Option Ob) → Option R} {r : R}
    (h : effK E cons obs ρ (.call ⟨.builtin .copy, xs, ats⟩) K = some r) : ∃ av obs', K av obs' = some r ∧ EffSound P obs ρ (.call ⟨.builtin .copy, xs, ats⟩) av obs' := by
  simp only [effK] at h
  split at h
  · simp at *
  · rename_i id x t el eb t' el' eb' _ h1 h2
    obtain ⟨sx, xx, rfl, hs, hx⟩ := two_args h1
    obtain ⟨T, T', rfl, hT, hT'⟩ := two_args h2
    obtain ⟨hu, ⟨i, hi, hisz, _⟩, hok⟩ := (hty T _ hT).list rfl
    simp only at hu hi
    split at h
    · rename_i hc
      simp only [Bool.and_eq_true, decide_eq_true_eq] at hc
      obtain ⟨hsz, _⟩ := hc
      split at h
      · rename_i ob u m hob hm
        split at h
        · rename_i m' hm'
          split at h
          · rename_i hot
            have hobF : obF obs id = some ob := hob
            have hlt := obF_lt hobF
            refine ⟨_, _, h, by simp [length_setN], fun M0 b0 ν w a o ho hg hr next Q hK => ?_⟩
            have hs' := hr sx (by simp [Op.operands, Call.operands])
            have hx' := hr xx (by simp [Op.operands, Call.operands])
            rw [hs] at hs'
            obtain ⟨_, hsv⟩ := hs'
            have hmv : RepV (Msum M0 ν (obF obs)) w (.list ob.t) m' (a.eval xx) := by
              have := toDyn_rep (by rw [← hx] at hm; exact hm) hx'
              obtain ⟨e, he⟩ := castD_eq hm'
              have e' : u = ob.t := by simpa using e
              obtain ⟨oe, ot, ol⟩ := ob
              simp only at e' m' he
              subst e'
              simp only at he
              subst he
              exact this
            obtain ⟨hok', hpos, ys, how, hrow⟩ := hg.ob id ob hobF
            have hsz' : ob.t.sz = 1 := by rw [hot]; exact hsz
            obtain ⟨_, cs, hmr, hmv'⟩ := hmv
            obtain ⟨A, c, ms, rfl, hrm, hcells⟩ := Rep.row hpos hmr
            have hmv2 : a.eval xx = .slice A m'.length c := by rw [hmv']; simp [ofCells, Ty.isSt]
            have hml : ms.length = m'.length := by rw [hrm.1, hsz', Nat.mul_one]
            have hyl : ys.length = ob.l.length := by rw [hrow.1, hsz', Nat.mul_one]
            have hone : ∀ v ∈ ms.take ob.l.length, v.oneCell' = true := by
              intro q hq
              have hq := List.mem_of_mem_take hq
              obtain ⟨j, hj, rfl⟩ := List.getElem_of_mem hq
              have h1 := hrm.2 j _ (List.getElem?_eq_getElem (by omega))
              rw [hsz', Nat.mul_one] at h1
              refine Rep.one _ _ _ h1 ms[j] (List.mem_of_getElem? (i := 0) ?_)
              rw [seg_getElem, if_pos (by omega)]
              exact List.getElem?_eq_getElem hj
            have hie : (P.info? el).map (·.size) = some 1 := by rw [hi]; simp [hisz, hsz]
            have hob' : obF (setN (some ⟨ob.e, ob.t, m'.take ob.l.length ++ ob.l.drop m'.length⟩) obs id ++ [none]) = upd (obF obs) id (some ⟨ob.e, ob.t, m'.take ob.l.length ++ ob.l.drop m'.length⟩) := by rw [obF_snoc_none, obF_set _ _ _ hlt]
            rw [hob'] at hK
            have hrow2 := RepRow.over hsz' hrow hrm
            have hmin : (ms.take ob.l.length).length = Nat.min m'.length ob.l.length := by simp only [List.length_take, hml]; exact Nat.min_comm _ _
            rcases how.1.2 with ⟨hn, hz⟩ | ⟨g, cap, cur, hν, hbg, hg2, hnc, hcm, hcs, htake⟩
            · -- nothing to write into
              have hl0 : ob.l = [] := List.eq_nil_of_length_eq_zero hz
              have hrun : (execOp a.eval o).run P w = .ok (.value (goInt 0)) w := by
                have := run_copy_none (P := P) w T T' o.type el none A 0 0 m'.length c hu hie (by simp)
                simp [execOp, ho, resolve, invoke, builtin, hsv, hn, hmv2, this]
              have hA := written_after hg hobF (m'.take ob.l.length ++ ob.l.drop m'.length) (take_drop_len _ _) (w' := w) how ⟨rfl, rfl, rfl, Nat.le_refl _, fun _ _ _ => rfl⟩ (by
                have hy0 : ys = [] := List.eq_nil_of_length_eq_zero (by omega)
                rw [hy0] at hrow2 ⊢
                simpa [splice, hz] using hrow2)
              have hv : ((min m'.length ob.l.length : Nat) : Int) = 0 := by rw [hz]; simp
              exact wp_value hrun (hK _ w ν hA (by rw [hv]; exact int_repV _ _ _ _))
            · by_cases h0 : Nat.min m'.length ob.l.length = 0
              · have hrun : (execOp a.eval o).run P w = .ok (.value (goInt 0)) w := by
                  have := run_copy_none (P := P) w T T' o.type el (some ⟨g, 0, none⟩) A ob.l.length cap m'.length c hu hie h0
                  simp [execOp, ho, resolve, invoke, builtin, hsv, hν, hmv2, this]
                have hA := written_after hg hobF (m'.take ob.l.length ++ ob.l.drop m'.length) (take_drop_len _ _) (w' := w) how ⟨rfl, rfl, rfl, Nat.le_refl _, fun _ _ _ => rfl⟩ (by
                  have ht0 : ms.take ob.l.length = [] := List.eq_nil_of_length_eq_zero (by rw [hmin, h0])
                  rw [ht0] at hrow2
                  simpa [splice] using hrow2)
                have hv : ((min m'.length ob.l.length : Nat) : Int) = 0 := by
                  have : min m'.length ob.l.length = 0 := h0
                  rw [this]; rfl
                exact wp_value hrun (hK _ w ν hA (by rw [hv]; exact int_repV _ _ _ _))
              · obtain ⟨ad, rfl⟩ : ∃ ad, A = some ad := by
                  have hp : 0 < ms.length := by rw [hml]; have := Nat.min_le_left m'.length ob.l.length; have h0' : Nat.min m'.length ob.l.length ≠ 0 := h0; have : (Nat.min m'.length ob.l.length) ≤ m'.length := this; omega
                  obtain ⟨ad, e, _⟩ := hcells 0 ms[0] (List.getElem?_eq_getElem hp)
                  exact ⟨ad, e⟩
                have hcurl : ob.l.length ≤ cur.size := by rw [hcs, hsz', Nat.mul_one]; exact hnc
                have htl : (ms.take ob.l.length).length ≤ ob.l.length := by simp; omega
                have hrunc := run_copy_row (P := P) w T T' o.type el g 0 ob.l.length cap ad m'.length c cur ob.e (ms.take ob.l.length) hu hie hg2 hmin (fun j q hj => by
                  rw [List.getElem?_take] at hj
                  split at hj
                  · obtain ⟨a', e, h⟩ := hcells j q hj
                    simp only [Option.some.injEq] at e
                    subst e
                    exact h
                  · cases hj) (by omega) hone
                obtain ⟨w', k1, k2, k3⟩ := own_splice (P := P) how (g := g) (by rw [hν]; rfl) (o := 0) (vs := ms.take ob.l.length) (by omega) hone
                have hst := run_storeCells_at P g 0 ob.e (ms.take ob.l.length) 0 cur w hg2 (by omega) hone
                simp only [Nat.add_zero, Nat.zero_add] at hst
                rw [k1] at hst
                simp only [Result.ok.injEq, true_and] at hst
                simp only [Nat.zero_add] at hrunc
                rw [← hst] at hrunc
                have hrun : (execOp a.eval o).run P w = .ok (.value (goInt (ms.take ob.l.length).length)) w' := by
                  simp only [execOp, ho, resolve, Sem.run_bind, Sem.run_pure, Result.andThen_ok, invoke, builtin, List.map_toArray, List.map_cons, List.map_nil, hsv, hν, hmv2, hrunc]
                have hA := written_after hg hobF (m'.take ob.l.length ++ ob.l.drop m'.length) (take_drop_len _ _) k2 (by rw [hν]; exact k3) hrow2
                have hv : ((min m'.length ob.l.length : Nat) : Int) = ((ms.take ob.l.length).length : Int) := by rw [hmin]
                exact wp_value hrun (hK _ w' ν hA (by rw [hv]; exact int_repV _ _ _ _))
          · cases h
        · cases h
      · cases h
    · cases h
  · cases h

theorem inK_rep {M : Nat → Prop} {ν : Nat → Value} {dom : Nat → Prop} {w : World} {st : List (Option Ob)} {ev : Operand → Value} (id : Nat) (hg : ∀ ob, nthD none st id = some ob → ObIn M w (ν id) ob) :
    ∀ (ps : List PK) (xs : List Operand) (ds : List Dyn) (ids : List Nat), inK st ps (xs.map ρ) = some (ds, ids) → (∀ j ∈ ids, j = id) → (∀ x ∈ xs, RepA M ν dom (obF st) w (ρ x) (ev x)) → RepIn M w (ν id) ps ds (xs.map ev)
  | [], [], ds, ids, h, _, _ => by simp [inK] at h; obtain ⟨rfl, rfl⟩ := h; trivial
  | p :: ps, x :: xs, ds, ids, h, hid, hr => by
    simp only [inK, List.map_cons] at h
    split at h
    · rename_i r q h1 h2
      simp only [Option.some.injEq, Prod.mk.injEq] at h
      obtain ⟨rfl, rfl⟩ := h
      have ih := inK_rep id hg ps xs q.1 q.2 h2 (fun j hj => hid j (by simp [hj])) fun y hy => hr y (by simp [hy])
      have hx := hr x (by simp)
      unfold argK at h1
      split at h1
      · split at h1
        · rename_i d hd
          simp only [Option.some.injEq] at h1
          subst h1
          exact ⟨toDyn_rep hd hx, ih⟩
        · cases h1
      · rename_i e t id' lo n hav
        split at h1
        · rename_i ob hob
          split at h1
          · rename_i hc
            simp only [Bool.and_eq_true, decide_eq_true_eq] at hc
            simp only [Option.some.injEq] at h1
            subst h1
            have := hid id' (by simp)
            subst this
            rw [hav] at hx
            obtain ⟨_, hx⟩ := hx
            obtain ⟨k0, k1, g, nn, c, cap, k2, k3, k4⟩ := hx ob hob
            have hO := hg ob hob
            obtain ⟨oe, ot, ol⟩ := ob
            obtain ⟨rfl, rfl⟩ := hc
            exact ⟨hO, k0, k1, ⟨g, nn, c, cap, k2, k3, k4⟩, ih⟩
          · cases h1
        · cases h1
      · rename_i e t id' hav
        split at h1
        · rename_i e' t' y hob
          split at h1
          · rename_i hc
            simp only [Bool.and_eq_true, decide_eq_true_eq] at hc
            simp only [Option.some.injEq] at h1
            subst h1
            have := hid id' (by simp)
            subst this
            rw [hav] at hx
            obtain ⟨_, hx⟩ := hx
            obtain ⟨k0, g, n, c, k2, k3⟩ := hx _ hob
            have hO := hg _ hob
            obtain ⟨rfl, rfl⟩ := hc
            exact ⟨hO, ⟨g, n, c, k2, by simpa [offP] using k3⟩, ih⟩
          · cases h1
        · cases h1
      · cases h1
    · cases h
  | [], _ :: _, _, _, h, _, _ => by simp [inK] at h
  | _ :: _, [], _, _, h, _, _ => by simp [inK] at h

theorem RepDs.mono {M M' : Nat → Prop} {w : World} (hM : ∀ b, M' b → M b) : ∀ {ds : List Dyn} {vs : List Value}, RepDs M w ds vs → RepDs M' w ds vs
  | [], [], _ => trivial
  | _ :: _, _ :: _, h => ⟨RepV.next (Agree.refl _ _) (fun b _ hb => hM b hb) h.1, RepDs.mono hM h.2⟩

theorem callG_sound {E : Env X} (hfg : ∀ f fg, E.fg f = some fg → ContractG P f fg) {cons : Bool} {obs : List (Option Ob)} {f : Operand} {xs : Array Operand} {ats : Array TypeId} {K : AV → List (Option Ob) → Option R} {r : R}
    (h : effK E cons obs ρ (.call ⟨.value f, xs, ats⟩) K = some r) : ∃ av obs', K av obs' = some r ∧ EffSound P obs ρ (.call ⟨.value f, xs, ats⟩) av obs' := by
  simp only [effK] at h
  split at h
  · rename_i g hρf
    split at h
    · rename_i fg hfs
      split at h
      · rename_i ds id p hin hp
        split at h
        · rename_i x hx
          obtain ⟨res, hres, h⟩ := Option.bind_eq_some_iff.1 h
          split at h
          · rename_i o rds henc
            split at h
            · rename_i ob ob0 hob hob0
              split at h
              · rename_i hc
                simp only [Bool.and_eq_true, decide_eq_true_eq] at hc
                obtain ⟨oe, ot, ol⟩ := ob
                obtain ⟨rfl, rfl⟩ := hc
                have hobF : obF obs id = some ob0 := hob0
                have hlt := obF_lt hobF
                refine ⟨_, _, h, by simp [length_setN], fun M0 b0 ν w a oo ho hg hr next Q hK => ?_⟩
                have hf := hr f (by simp [Op.operands, Call.operands])
                rw [hρf] at hf
                have hf' : a.eval f = .func (.func g) #[] #[] := hf
                obtain ⟨q1, q2, xs0, q3, q4⟩ := hg.ob id ob0 hobF
                have hargs := inK_rep (ρ := ρ) (ν := ν) (dom := (· < obs.length)) (M := Msum M0 ν (obF obs)) (w := w) (ev := a.eval) id (fun ob h => by
                  rw [hob0] at h
                  simp only [Option.some.injEq] at h
                  subst h
                  exact ⟨q1, q2, xs0, q3.1, q4⟩) fg.ps xs.toList ds [id] hin (fun j hj => by simpa using hj) (fun y hy => hr y (by show y ∈ (#[f] ++ xs); exact Array.mem_append.2 (.inr (Array.mem_toList_iff.1 hy))))
                have hdec := decT_enc _ ds x hx
                rw [← hdec] at hargs
                have hdo := hfg g fg hfs x res hres (Msum M0 ν (obF obs)) w _ (ν id) hg.mlt (fun b hb => .inr ⟨id, ob0, hobF, hb⟩) hargs
                have hrun : (execOp a.eval oo).run P w = (callFunc g (xs.map a.eval)).run P w := by
                  obtain ⟨dst, op, ty, pos, af, gd⟩ := oo
                  simp only at ho
                  subst ho
                  simp [execOp, resolve, hf', Deferred.ofValue, invoke]
                have harr : (xs.toList.map a.eval).toArray = xs.map a.eval := by rw [← Array.toList_map]
                rw [harr] at hdo
                have fin : ∀ w' us o' rds', encT (fg.ps.flatMap PK.outs ++ fg.rs) res = o' :: rds' → (∀ p ob, ioP fg.ps = some p → p.ob o' = some ob → ObIn (Msum M0 ν (obF obs)) w' (ν id) ob) → RepDs (Msum M0 ν (obF obs)) w' rds' us →
                    Beyond (fun b => w.heap.size ≤ b ∨ (ν id).ownBlock = some b) w w' → next (a.put oo.dst (tupleOf us)) w' := by
                  intro w' us o' rds' he hO hrd hB
                  rw [henc] at he
                  obtain ⟨rfl, rfl⟩ := List.cons.inj he
                  obtain ⟨k1, k2, ys, k3, k4⟩ := hO p _ hp hob
                  have hgr : w.grownBy w' (ν id).ownBlock := ⟨hB.os, hB.tape, hB.output, hB.size, fun k hk hne => hB.block k (by
                    rintro (h | h)
                    · omega
                    · exact hne h.symm)⟩
                  have hll : ol.length = ob0.l.length := by
                    have a1 := q3.1.2
                    have a2 := k3.2
                    simp only at a2
                    rcases a1 with ⟨e1, z1⟩ | ⟨g1, c1, u1, e1, _⟩ <;> rcases a2 with ⟨e2, z2⟩ | ⟨g2, c2, u2, e2, _⟩
                    · omega
                    · rw [e1] at e2; simp at e2
                    · rw [e1] at e2; simp at e2
                    · rw [e1] at e2
                      simp only [Value.slice.injEq] at e2
                      exact e2.2.1.symm
                  have hA := changed_after hg hobF ol hll (w' := w') ⟨by simp only at k3; rw [hll] at k3; exact k3, q3.2⟩ hgr k4
                  refine hK _ w' ν ?_ ?_
                  · have : obF (setN (some ⟨ob0.e, ob0.t, ol⟩) obs id ++ [none]) = upd (obF obs) id (some ⟨ob0.e, ob0.t, ol⟩) := by rw [obF_snoc_none, obF_set _ _ _ hlt]
                    rw [this]
                    exact hA
                  · refine resAV_rep (hrd.mono fun b hb => ?_)
                    rw [show obF (setN (some ⟨ob0.e, ob0.t, ol⟩) obs id ++ [none]) = upd (obF obs) id (some ⟨ob0.e, ob0.t, ol⟩) by rw [obF_snoc_none, obF_set _ _ _ hlt]] at hb
                    rcases hb with hb | ⟨j, oj, hj, hb⟩
                    · exact .inl hb
                    · unfold upd at hj
                      split at hj
                      · rename_i e
                        subst e
                        exact .inr ⟨j, ob0, hobF, hb⟩
                      · exact .inr ⟨j, oj, hj, hb⟩
                unfold Oper.wp
                rw [hrun]
                rcases hdo with ⟨h1, h2⟩ | ⟨v, w', h1, us, o', rds', hv, he, hO, h2, h3⟩
                · rw [h1]
                  refine h2.mono fun e w' he => ?_
                  obtain ⟨us, o', rds', rfl, he, hO, h3, h4⟩ := he
                  exact fin w' us o' rds' he hO h3 h4
                · rw [h1]
                  simp only [Ending.returned.injEq] at hv
                  subst hv
                  exact fin w' us o' rds' he hO h2 h3
              · cases h
            · cases h
          · cases h
        · cases h
      · cases h
    · cases h
  · cases h

theorem eff_sound {E : Env X} (hty : ∀ T ti, E.ty T = some ti → TyOk P T ti) (hfg : ∀ f fg, E.fg f = some fg → ContractG P f fg) {cons : Bool} {obs : List (Option Ob)} {op : Op} {K : AV → List (Option Ob) → Option R} {r : R}
    (h : effK E cons obs ρ op K = some r) : ∃ av obs', K av obs' = some r ∧ EffSound P obs ρ op av obs' := by
  cases op with
  | store T ad x => exact store_sound hty h
  | call c =>
    obtain ⟨cal, xs, ats⟩ := c
    cases cal with
    | value f => exact callG_sound hfg h
    | invoke r m => simp [effK] at h
    | builtin b =>
      cases b with
      | append => exact append_sound hty h
      | copy => exact copy_sound hty h
      | _ => simp [effK] at h
  | _ => simp [effK] at h

end Go.FK
