/- Calls, lengths; all operations that write nothing that is there, together. -/
import Derived.Test.YtiacmfebhoodnaaFkK
namespace Go.FK
open Go.RowKit

variable {P : Program} {nid : Nat} {obsm : Obs} {ρ : Operand → AV} {X R : Type}

theorem castD_dyn {t t' : Ty} {x : t.D} {y : t'.D} (h : castD t t' x = some y) : (⟨t', y⟩ : Dyn) = ⟨t, x⟩ := by
  obtain ⟨e, rfl⟩ := castD_eq h
  subst e
  rfl

theorem decT_enc : ∀ (ts : List Ty) (ds : List Dyn) (x : TD ts), decT ts ds = some x → encT ts x = ds
  | [], [], _, _ => rfl
  | [], _ :: _, _, h => by simp [decT] at h
  | _ :: [], [], _, h => by simp [decT] at h
  | t :: [], d :: [], x, h => by
    simp only [decT] at h
    have := castD_dyn h
    simp only [encT, this]
  | _ :: [], _ :: _ :: _, _, h => by simp [decT] at h
  | _ :: _ :: _, [], _, h => by simp [decT] at h
  | t :: u :: ts, d :: ds, x, h => by
    simp only [decT] at h
    split at h
    · rename_i y z h1 h2
      simp only [Option.some.injEq] at h
      subst h
      simp only [encT, castD_dyn h1, decT_enc (u :: ts) ds z h2]
    · cases h

theorem toDyns_rep {M : Nat → Prop} {ν : Nat → Value} {dom : Nat → Prop} {obs : Obs} {w : World} {ev : Operand → Value} : ∀ (ts : List Ty) (xs : List Operand) (ds : List Dyn), toDyns ts (xs.map ρ) = some ds → (∀ x ∈ xs, RepA M ν dom obs w (ρ x) (ev x)) → RepDs M w ds (xs.map ev)
  | [], [], ds, h, _ => by
    simp only [List.map_nil, toDyns, Option.some.injEq] at h
    subst h
    trivial
  | [], _ :: _, _, h, _ => by simp [toDyns] at h
  | _ :: _, [], _, h, _ => by simp [toDyns] at h
  | t :: ts, x :: xs, ds, h, hr => by
    simp only [List.map_cons, toDyns] at h
    split at h
    · rename_i d ds' h1 h2
      simp only [Option.some.injEq] at h
      subst h
      exact ⟨toDyn_rep h1 (hr x (by simp)), toDyns_rep ts xs ds' h2 (fun y hy => hr y (by simp [hy]))⟩
    · cases h

theorem RepDs.len {M : Nat → Prop} {w : World} : ∀ {ds : List Dyn} {vs : List Value}, RepDs M w ds vs → ds.length = vs.length
  | [], [], _ => rfl
  | _ :: _, _ :: _, h => by simp [h.2.len]
  | [], _ :: _, h => h.elim
  | _ :: _, [], h => h.elim

theorem RepDs.get {M : Nat → Prop} {w : World} : ∀ {ds : List Dyn} {vs : List Value}, RepDs M w ds vs → ∀ (i : Nat) (d : Dyn), ds[i]? = some d → ∃ u, vs[i]? = some u ∧ RepV M w d.1 d.2 u
  | [], _, _, i, d, h => by simp at h
  | d :: ds, v :: vs, hr, 0, e, h => by
    simp at h
    subst h
    exact ⟨v, rfl, hr.1⟩
  | d :: ds, v :: vs, hr, i + 1, e, h => by
    obtain ⟨u, h1, h2⟩ := hr.2.get i e (by simpa using h)
    exact ⟨u, by simpa using h1, h2⟩

theorem RepDs.next {M M' : Nat → Prop} {w w' : World} (hA : Agree M w w') (hM : ∀ b, b < w.heap.size → M' b → M b) : ∀ {ds : List Dyn} {vs : List Value}, RepDs M w ds vs → RepDs M' w' ds vs
  | [], [], _ => trivial
  | _ :: _, _ :: _, h => ⟨h.1.next hA hM, h.2.next hA hM⟩
  | [], _ :: _, h => h.elim
  | _ :: _, [], h => h.elim

theorem resAV_rep {M : Nat → Prop} {ν : Nat → Value} {dom : Nat → Prop} {obs : Obs} {w : World} {ds : List Dyn} {us : List Value} (h : RepDs M w ds us) : RepA M ν dom obs w (resAV ds) (tupleOf us) := by
  unfold resAV
  split
  · rename_i d
    match us, h with
    | [u], h => exact h.1
  · rename_i hne
    have : tupleOf us = .tuple us.toArray := by
      match us, ds, h with
      | [], [], _ => rfl
      | [u], [d], _ => exact absurd rfl (hne d)
      | _ :: _ :: _, _, _ => rfl
    rw [this]
    exact ⟨_, rfl, by simp [h.len], fun i d hi => by
      obtain ⟨u, h1, h2⟩ := h.get i d hi
      exact ⟨u, by simpa using h1, h2⟩⟩

theorem Good.mlt {M0 : Nat → Prop} {b0 : Nat → Prop} {ν : Nat → Value} {obs : Obs} {w : World} (h : Good M0 b0 ν obs w) : ∀ b, Msum M0 ν obs b → b < w.heap.size := by
  intro b hb
  rcases hb with hb | ⟨id, ob, ho, hv⟩
  · exact Nat.lt_of_not_le fun hl => h.m0 b hb (h.hb b hl)
  · obtain ⟨_, _, xs, h3, _⟩ := h.ob id ob ho
    exact (h3.1.lt b hv).2

theorem call_sound {E : Env X} (hfn : ∀ f fs, E.fn f = some fs → Contract P f fs) (hfw : ∀ f fw, E.fw f = some fw → ContractW P f fw) {cons : Bool} {f : Operand} {xs : Array Operand} {ats : Array TypeId} {K : AV → Option Ob → Option R} {r : R}
    (h : freeK E nid cons obsm ρ (.call ⟨.value f, xs, ats⟩) K = some r) : ∃ av nob, K av nob = some r ∧ FreeSound P nid obsm ρ (.call ⟨.value f, xs, ats⟩) av nob := by
  simp only [freeK] at h
  split at h
  · rename_i g hρf
    split at h
    · rename_i fs hfs
      split at h
      · rename_i ds hds
        split at h
        · rename_i x hx
          obtain ⟨res, hres, hK⟩ := Option.bind_eq_some_iff.1 h
          refine ⟨_, _, hK, ?_⟩
          intro M0 b0 ν obs dom w a o ho hg hd hs hr hn hnd next Q hKK
          have hf := hr f (by simp [Op.operands, Call.operands])
          rw [hρf] at hf
          have hf' : a.eval f = .func (.func g) #[] #[] := hf
          have hargs := toDyns_rep (ev := a.eval) fs.ps xs.toList ds hds (fun y hy => hr y (by show y ∈ (#[f] ++ xs); exact Array.mem_append.2 (.inr (Array.mem_toList_iff.1 hy))))
          have henc := decT_enc fs.ps ds x hx
          rw [← henc] at hargs
          have hdo := hfn g fs hfs x res hres (Msum M0 ν obs) w _ hg.mlt hargs
          have hrun : (execOp a.eval o).run P w = (callFunc g (xs.map a.eval)).run P w := by
            obtain ⟨dst, op, ty, pos, af, gd⟩ := o
            simp only at ho
            subst ho
            simp [execOp, resolve, hf', Deferred.ofValue, invoke]
          have harr : (xs.toList.map a.eval).toArray = xs.map a.eval := by rw [← Array.toList_map]
          rw [harr] at hdo
          have fin : ∀ w' us, RepDs (Msum M0 ν obs) w' (encT fs.rs res) us → Below w.heap.size w w' → next (a.put o.dst (tupleOf us)) w' := by
            intro w' us h1 h2
            obtain ⟨hL, hG⟩ := hg.same hn h2
            refine hKK _ w' ν hL hG ?_
            have : Msum M0 ν (upd obs nid none) = Msum M0 ν obs := by
              have : upd obs nid none = obs := by
                funext id
                unfold upd
                split
                · rename_i e; rw [e, hn]
                · rfl
              rw [this]
            rw [this]
            exact resAV_rep h1
          unfold Oper.wp
          rw [hrun]
          rcases hdo with ⟨h1, h2⟩ | ⟨v, w', h1, us, hv, h2, h3⟩
          · rw [h1]
            refine h2.mono fun e w' he => ?_
            obtain ⟨us, rfl, h3, h4⟩ := he
            exact fin w' us h3 h4
          · rw [h1]
            simp only [Ending.returned.injEq] at hv
            subst hv
            exact fin w' us h2 h3
        · cases h
      · cases h
    · split at h
      · rename_i fw hfs
        split at h
        · rename_i ds hds
          split at h
          · rename_i x hx
            obtain ⟨res, hres, hK⟩ := Option.bind_eq_some_iff.1 h
            have hrun0 : ∀ (a : Act) (o : Oper) (w : World), o.op = .call ⟨.value f, xs, ats⟩ → a.eval f = .func (.func g) #[] #[] → (execOp a.eval o).run P w = (callFunc g (xs.map a.eval)).run P w := by
              intro a o w ho hf'
              obtain ⟨dst, op, ty, pos, af, gd⟩ := o
              simp only at ho
              subst ho
              simp [execOp, resolve, hf', Deferred.ofValue, invoke]
            have hdo : ∀ (M0 : Nat → Prop) (b0 : Nat → Prop) (ν : Nat → Value) (obs : Obs) (dom : Nat → Prop) (w : World) (a : Act) (o : Oper), o.op = .call ⟨.value f, xs, ats⟩ → Good M0 b0 ν obs w →
                (∀ x ∈ (Op.call ⟨.value f, xs, ats⟩).operands, RepA (Msum M0 ν obs) ν dom obs w (ρ x) (a.eval x)) → ∀ (next : Act → World → Prop) (Q : Exit → Act → World → Prop),
                (∀ v row w', (if fw.bx = true then 0 < res.length ∧ ∃ g n c, row = .slice (some ⟨g, 0, none⟩) n c ∧ v = .pointer (some ⟨g, 0, none⟩) else v = row) →
                  (∀ b, row.ownBlock = some b → w.heap.size ≤ b) → ObIn (fun b => Msum M0 ν obs b ∨ row.ownBlock = some b) w' row ⟨fw.e, fw.t, res⟩ → Below w.heap.size w w' → next (a.put o.dst v) w') → o.wp P a w next Q := by
              intro M0 b0 ν obs dom w a o ho hg hr next Q fin
              have hf := hr f (by simp [Op.operands, Call.operands])
              rw [hρf] at hf
              have hf' : a.eval f = .func (.func g) #[] #[] := hf
              have hargs := toDyns_rep (ev := a.eval) fw.ps xs.toList ds hds (fun y hy => hr y (by show y ∈ (#[f] ++ xs); exact Array.mem_append.2 (.inr (Array.mem_toList_iff.1 hy))))
              have henc := decT_enc fw.ps ds x hx
              rw [← henc] at hargs
              have hdo := hfw g fw hfs x res hres (Msum M0 ν obs) w _ hg.mlt hargs
              have harr : (xs.toList.map a.eval).toArray = xs.map a.eval := by rw [← Array.toList_map]
              rw [harr] at hdo
              unfold Oper.wp
              rw [hrun0 a o w ho hf']
              rcases hdo with ⟨h1, h2⟩ | ⟨v, w', h1, u, row, hv, h2, h3, h4, h5⟩
              · rw [h1]
                refine h2.mono fun e w' he => ?_
                obtain ⟨v, row, rfl, h3, h4, h5, h6⟩ := he
                exact fin v row w' h3 h4 h5 h6
              · rw [h1]
                simp only [Ending.returned.injEq] at hv
                subst hv
                exact fin _ row w' h2 h3 h4 h5
            split at hK
            · rename_i hbx
              refine ⟨_, _, hK, ?_⟩
              intro M0 b0 ν obs dom w a o ho hg hd hs hr hn hnd next Q hKK
              refine hdo M0 b0 ν obs dom w a o ho hg hr next Q fun v row w' hv hnew hO hB => ?_
              rw [if_pos hbx] at hv
              obtain ⟨hpos, g', n', c', hrow, hvp⟩ := hv
              obtain ⟨q1, q2, ys, q3, q4⟩ := hO
              obtain ⟨hL, hG⟩ := hg.addW (nid := nid) hB ⟨fw.e, fw.t, res⟩ row hnew q1 q2 ys q3 q4
              refine hKK v w' _ hL hG ⟨.inr rfl, fun ob hob => ?_⟩
              simp only [upd, if_true, Option.some.injEq] at hob
              subst hob
              exact ⟨hpos, g', n', c', by simp [hrow], by simpa [offP] using hvp⟩
            · rename_i hbx
              cases hc : cons <;> simp only [hc, cond_true, cond_false] at hK
              · refine ⟨_, _, hK, ?_⟩
                intro M0 b0 ν obs dom w a o ho hg hd hs hr hn hnd next Q hKK
                refine hdo M0 b0 ν obs dom w a o ho hg hr next Q fun v row w' hv hnew hO hB => ?_
                rw [if_neg hbx] at hv
                subst hv
                obtain ⟨q1, q2, ys, q3, q4⟩ := hO
                obtain ⟨hL, hG⟩ := hg.addW (nid := nid) hB ⟨fw.e, fw.t, res⟩ v hnew q1 q2 ys q3 q4
                exact hKK v w' _ hL hG ⟨.inr rfl, by simp⟩
              · refine ⟨_, _, hK, ?_⟩
                intro M0 b0 ν obs dom w a o ho hg hd hs hr hn hnd next Q hKK
                refine hdo M0 b0 ν obs dom w a o ho hg hr next Q fun v row w' hv hnew hO hB => ?_
                rw [if_neg hbx] at hv
                subst hv
                obtain ⟨q1, q2, ys, q3, q4⟩ := hO
                obtain ⟨hL, hG⟩ := hg.same hn hB
                have hu : upd obs nid none = obs := by
                  funext id
                  unfold upd
                  split
                  · rename_i e; rw [e, hn]
                  · rfl
                refine hKK v w' ν hL hG ?_
                rw [hu]
                exact ⟨by simpa [Ty.ok] using q1, [v], RepRow.list q3 (q4.next (Agree.refl _ _) (fun b _ hb => .inl hb)) (fun b hb hm => by
                  have := hnew b hb
                  have := hg.mlt b hm
                  omega), by simp [ofCells, Ty.isSt]⟩
          · cases h
        · cases h
      · cases h
  · cases h

theorem len_sound {E : Env X} (hty : ∀ T ti, E.ty T = some ti → TyOk P T ti) {cons : Bool} {xs : Array Operand} {ats : Array TypeId} {K : AV → Option Ob → Option R} {r : R}
    (h : freeK E nid cons obsm ρ (.call ⟨.builtin .len, xs, ats⟩) K = some r) : ∃ av nob, K av nob = some r ∧ FreeSound P nid obsm ρ (.call ⟨.builtin .len, xs, ats⟩) av nob := by
  simp only [freeK] at h
  have one : ∀ {α β : Type} {f : α → β} {a : Array α} {b : β}, a.toList.map f = [b] → ∃ x, a = #[x] ∧ f x = b := by
    intro α β f a b e
    obtain ⟨l⟩ := a
    cases l with
    | nil => simp at e
    | cons x r => cases r with
      | nil => exact ⟨x, rfl, by simpa using e⟩
      | cons _ _ => simp at e
  have run : ∀ (ac : Act) (o : Oper) (x : Operand) (T : TypeId) (v : Value) (w : World), o.op = .call ⟨.builtin .len, #[x], #[T]⟩ → (Builtin.len_ #[T] o.type #[ac.eval x]).run P w = .ok v w → (execOp ac.eval o).run P w = .ok (.value v) w := by
    intro ac o x T v w ho hl
    simp [execOp, ho, resolve, invoke, builtin, hl]
  split at h
  · rename_i s el eb h1 h2
    obtain ⟨x, rfl, hx⟩ := one h1
    obtain ⟨T, rfl, hT⟩ := one h2
    have hu : P.underlying T = some .string := by simpa [Shape] using (hty T _ hT).2.2
    refine ⟨_, _, h, freeSound_pure fun M0 b0 ν obs dom w a o ho hg hdm hs hr => ?_⟩
    have hv := hr x (by simp [Op.operands, Call.operands])
    rw [hx] at hv
    have hv' : a.eval x = .string s := repV_str hv
    exact ⟨_, run a o x T (goInt s.size) w ho (by rw [hv']; exact run_len_string w T o.type s hu), int_repV _ _ _ _⟩
  · rename_i u l t el eb h1 h2
    obtain ⟨x, rfl, hx⟩ := one h1
    obtain ⟨T, rfl, hT⟩ := one h2
    obtain ⟨hu, _, _⟩ := (hty T _ hT).list rfl
    refine ⟨_, _, h, freeSound_pure fun M0 b0 ν obs dom w a o ho hg hdm hs hr => ?_⟩
    have hv := hr x (by simp [Op.operands, Call.operands])
    rw [hx] at hv
    obtain ⟨A, c, hv', _⟩ := repV_list hv
    exact ⟨_, run a o x T (goInt l.length) w ho (by rw [hv']; simp [Builtin.len_, run_underlying hu]), int_repV _ _ _ _⟩
  · rename_i t el eb h1 h2
    obtain ⟨x, rfl, hx⟩ := one h1
    obtain ⟨T, rfl, hT⟩ := one h2
    obtain ⟨hu, _, _⟩ := (hty T _ hT).list rfl
    refine ⟨_, _, h, freeSound_pure fun M0 b0 ν obs dom w a o ho hg hdm hs hr => ?_⟩
    have hv := hr x (by simp [Op.operands, Call.operands])
    rw [hx] at hv
    have hv' : a.eval x = .slice none 0 0 := hv
    exact ⟨_, run a o x T (goInt 0) w ho (by rw [hv']; simp [Builtin.len_, run_underlying hu]), int_repV _ _ _ _⟩
  · rename_i id lo m t el eb h1 h2
    obtain ⟨x, rfl, hx⟩ := one h1
    obtain ⟨T, rfl, hT⟩ := one h2
    obtain ⟨hu, _, _⟩ := (hty T _ hT).list rfl
    split at h
    · rename_i ob hob
      refine ⟨_, _, h, freeSound_pure fun M0 b0 ν obs dom w a o ho hg hdm hs hr => ?_⟩
      have hv := hr x (by simp [Op.operands, Call.operands])
      rw [hx] at hv
      obtain ⟨_, _, g, nn, c, cap, _, hv, _⟩ := hv.2 ob (hs id ob hob)
      exact ⟨_, run a o x T (goInt m) w ho (by rw [hv]; simp [Builtin.len_, run_underlying hu]), int_repV _ _ _ _⟩
    · cases h
  · rename_i id t el eb h1 h2
    obtain ⟨x, rfl, hx⟩ := one h1
    obtain ⟨T, rfl, hT⟩ := one h2
    obtain ⟨hu, _, _⟩ := (hty T _ hT).list rfl
    split at h
    · rename_i ob hob
      refine ⟨_, _, h, freeSound_pure fun M0 b0 ν obs dom w a o ho hg hdm hs hr => ?_⟩
      have hv := hr x (by simp [Op.operands, Call.operands])
      rw [hx] at hv
      obtain ⟨_, _, xs, ⟨how, _⟩, _⟩ := hg.ob id ob (hs id ob hob)
      have hlen : ∃ A c, ν id = .slice A ob.l.length c := by
        rcases how.2 with ⟨e, hz⟩ | ⟨g, cap, cur, e, _⟩
        · exact ⟨none, 0, by rw [e, hz]⟩
        · exact ⟨_, _, e⟩
      obtain ⟨A, c, hlen⟩ := hlen
      exact ⟨_, run a o x T (goInt ob.l.length) w ho (by rw [hv.2, hlen]; simp [Builtin.len_, run_underlying hu]), int_repV _ _ _ _⟩
    · cases h
  · cases h

theorem move_sound {E : Env X} {cons : Bool} {op : Op} {x : Operand} (hop : op = .move x ∨ op = .assign x) {K : AV → Option Ob → Option R} {r : R}
    (h : freeK E nid cons obsm ρ op K = some r) : ∃ av nob, K av nob = some r ∧ FreeSound P nid obsm ρ op av nob := by
  have h' : K (ρ x) none = some r := by rcases hop with rfl | rfl <;> exact h
  refine ⟨_, _, h', freeSound_pure fun M0 b0 ν obs dom w a o ho hg hdm hs hr => ⟨a.eval x, ?_, hr x (by rcases hop with rfl | rfl <;> simp [Op.operands])⟩⟩
  rcases hop with rfl | rfl <;> simp [execOp, ho]

theorem pick_sound {E : Env X} {cons : Bool} {c x y : Operand} {K : AV → Option Ob → Option R} {r : R}
    (h : freeK E nid cons obsm ρ (.pick c x y) K = some r) : ∃ av nob, K av nob = some r ∧ FreeSound P nid obsm ρ (.pick c x y) av nob := by
  simp only [freeK] at h
  split at h
  · rename_i t hρ
    cases t <;> simp only [cond_true, cond_false] at h
    · refine ⟨_, _, h, freeSound_pure fun M0 b0 ν obs dom w a o ho hg hdm hs hr => ⟨a.eval y, ?_, hr y (by simp [Op.operands])⟩⟩
      have hc := hr c (by simp [Op.operands])
      rw [hρ] at hc
      simp [execOp, ho, repV_bool hc, asBool]
    · refine ⟨_, _, h, freeSound_pure fun M0 b0 ν obs dom w a o ho hg hdm hs hr => ⟨a.eval x, ?_, hr x (by simp [Op.operands])⟩⟩
      have hc := hr c (by simp [Op.operands])
      rw [hρ] at hc
      simp [execOp, ho, repV_bool hc, asBool]
  · cases h

theorem nilCheck_sound {E : Env X} {cons : Bool} {x : Operand} {K : AV → Option Ob → Option R} {r : R}
    (h : freeK E nid cons obsm ρ (.nilCheck x) K = some r) : ∃ av nob, K av nob = some r ∧ FreeSound P nid obsm ρ (.nilCheck x) av nob := by
  simp only [freeK] at h
  split at h
  · rename_i id ix path hρ
    split at h
    · rename_i ob hob
      refine ⟨_, _, h, freeSound_pure fun M0 b0 ν obs dom w a o ho hg hdm hs hr => ?_⟩
      have hx := hr x (by simp [Op.operands])
      rw [hρ] at hx
      obtain ⟨_, g, n, c, _, hv⟩ := hx.2 ob (hs id ob hob)
      exact ⟨a.eval x, by simp [execOp, ho, hv], hx⟩
    · cases h
  · rename_i t y hρ
    refine ⟨_, _, h, freeSound_pure fun M0 b0 ν obs dom w a o ho hg hdm hs hr => ?_⟩
    have hx := hr x (by simp [Op.operands])
    rw [hρ] at hx
    obtain ⟨_, ad, cs, hv, _⟩ := id hx
    exact ⟨a.eval x, by simp [execOp, ho, hv], hx⟩
  · cases h

theorem free_sound {E : Env X} (hty : ∀ T ti, E.ty T = some ti → TyOk P T ti) (hfn : ∀ f fs, E.fn f = some fs → Contract P f fs) (hfw : ∀ f fw, E.fw f = some fw → ContractW P f fw) {cons : Bool} {op : Op} {K : AV → Option Ob → Option R} {r : R}
    (h : freeK E nid cons obsm ρ op K = some r) : ∃ av nob, K av nob = some r ∧ FreeSound P nid obsm ρ op av nob := by
  cases op with
  | move x => exact move_sound (.inl rfl) h
  | assign x => exact move_sound (.inr rfl) h
  | pick c x y => exact pick_sound h
  | alloc T => exact alloc_sound hty h
  | box T x => exact box_sound hty h
  | build T ps => exact build_sound hty h
  | buildSlice T n ps => exact buildSlice_sound hty h
  | load T x => exact load_sound hty h
  | nilCheck x => exact nilCheck_sound h
  | makeSlice T l c => exact makeSlice_sound hty h
  | slice T x lo hi mx => exact slice_sound hty h
  | fieldAddr T x j => exact fieldAddr_sound hty h
  | field T x j => exact field_sound hty h
  | indexAddr T x i => exact indexAddr_sound hty h
  | index T x i => exact index_sound hty h
  | extract x j => exact extract_sound h
  | binOp op T x y yT =>
    simp only [freeK] at h
    obtain ⟨t, z, hK, hs⟩ := binK_sound hty h
    refine ⟨_, _, hK, freeSound_pure fun M0 b0 ν obs dom w a o ho hg hdm _ hr => ?_⟩
    obtain ⟨v, hv, hrep⟩ := hs _ ν dom obs w x y _ _ (hr x (by simp [Op.operands])) (hr y (by simp [Op.operands]))
    exact ⟨v, by simp only [execOp, ho]; simp only [Sem.run_bind] at hv ⊢; rw [hv]; rfl, hrep⟩
  | unOp op T x =>
    simp only [freeK] at h
    obtain ⟨t, z, hK, hs⟩ := unK_sound (P := P) h
    refine ⟨_, _, hK, freeSound_pure fun M0 b0 ν obs dom w a o ho hg hdm _ hr => ?_⟩
    obtain ⟨v, hv, hrep⟩ := hs _ ν dom obs w _ (hr x (by simp [Op.operands]))
    exact ⟨v, by simp [execOp, ho, hv], hrep⟩
  | convert s d x =>
    simp only [freeK] at h
    obtain ⟨t, z, hK, hs⟩ := convK_sound hty h
    refine ⟨_, _, hK, freeSound_pure fun M0 b0 ν obs dom w a o ho hg hdm _ hr => ?_⟩
    obtain ⟨v, hv, hrep⟩ := hs _ ν dom obs w _ (hr x (by simp [Op.operands]))
    exact ⟨v, by simp [execOp, ho, hv], hrep⟩
  | call c =>
    obtain ⟨cal, xs, ats⟩ := c
    cases cal with
    | value f => exact call_sound hfn hfw h
    | invoke r m => simp [freeK] at h
    | builtin b => cases b <;> first | exact len_sound hty h | simp [freeK] at h
  | _ => simp [freeK] at h

end Go.FK
