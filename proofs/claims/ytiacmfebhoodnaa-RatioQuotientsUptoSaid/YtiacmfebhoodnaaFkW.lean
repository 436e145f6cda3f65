/- A function that writes one of its arguments: its contract, from its equations. -/
import Derived.Test.YtiacmfebhoodnaaFkV
namespace Go.FK
open Go.RowKit

variable {P : Program}

/-- What stands in a parameter's slot. -/
def SlotOk (M : Nat → Prop) (w : World) (row : Value) (j0 : Nat) (obs : List (Option Ob)) (av : AV) (v : Value) : Prop :=
  match av with
  | .val t x => RepV M w t x v
  | .win id lo n => ∃ ob, j0 ≤ id ∧ obs[id - j0]? = some (some ob) ∧ 0 < n ∧ lo + n ≤ ob.l.length ∧ ∃ g nn c cap, row = .slice (some ⟨g, 0, none⟩) nn c ∧ v = .slice (some ⟨g, lo * ob.t.sz, none⟩) n cap ∧ n ≤ cap
  | .ptr id 0 [] => ∃ ob, j0 ≤ id ∧ obs[id - j0]? = some (some ob) ∧ ob.l.length = 1 ∧ ∃ g n c, row = .slice (some ⟨g, 0, none⟩) n c ∧ v = .pointer (some ⟨g, 0, none⟩)
  | _ => False

theorem SlotOk.later {M : Nat → Prop} {w : World} {row : Value} {j0 : Nat} {obs : List (Option Ob)} {o : Option Ob} {av : AV} {v : Value} (h : SlotOk M w row (j0 + 1) obs av v) : SlotOk M w row j0 (o :: obs) av v := by
  unfold SlotOk at h ⊢
  split at h
  · exact h
  · rename_i id lo n
    obtain ⟨ob, h1, h2, h3⟩ := h
    refine ⟨ob, by omega, ?_, h3⟩
    have : id - j0 = (id - (j0 + 1)) + 1 := by omega
    rw [this]
    simpa using h2
  · rename_i id
    obtain ⟨ob, h1, h2, h3⟩ := h
    refine ⟨ob, by omega, ?_, h3⟩
    have : id - j0 = (id - (j0 + 1)) + 1 := by omega
    rw [this]
    simpa using h2
  · exact h

theorem entrySlots_rep {M : Nat → Prop} {w : World} {row : Value} : ∀ (ps : List PK) (j : Nat) (ds : List Dyn) (vs : List Value), RepIn M w row ps ds vs →
    (entrySlots ps j ds).1.length = vs.length ∧ (entrySlots ps j ds).2.length = ioN ps ∧ (∀ (k : Nat) (o : Option Ob), (entrySlots ps j ds).2[k]? = some o → ∃ ob, o = some ob ∧ ObIn M w row ob) ∧
      ∀ (i : Nat) (av : AV), (entrySlots ps j ds).1[i]? = some av → ∃ v, vs[i]? = some v ∧ SlotOk M w row j (entrySlots ps j ds).2 av v
  | [], j, [], [], _ => ⟨rfl, rfl, fun k o h => by simp [entrySlots] at h, fun i av h => by simp [entrySlots] at h⟩
  | .val t :: ps, j, d :: ds, v :: vs, h => by
    obtain ⟨h1, h2⟩ := h
    obtain ⟨k1, k2, k3, k4⟩ := entrySlots_rep ps j ds vs h2
    refine ⟨by simp [entrySlots, k1], by simp [entrySlots, k2, ioN, PK.io], by simpa [entrySlots] using k3, fun i av hi => ?_⟩
    cases i with
    | zero =>
      simp only [entrySlots, List.getElem?_cons_zero, Option.some.injEq] at hi
      subst hi
      exact ⟨v, rfl, h1⟩
    | succ i =>
      obtain ⟨u, hu, hs⟩ := k4 i av (by simpa [entrySlots] using hi)
      exact ⟨u, by simpa using hu, hs⟩
  | .win e t :: ps, j, ⟨.list u, l⟩ :: ⟨.flt, lo⟩ :: ⟨.flt, n⟩ :: ds, v :: vs, h => by
    obtain ⟨h1, h2, h3, h4, h5⟩ := h
    obtain ⟨k1, k2, k3, k4⟩ := entrySlots_rep ps (j + 1) ds vs h5
    refine ⟨by simp [entrySlots, k1], by simp [entrySlots, k2, ioN, PK.io, Nat.add_comm], fun k o hk => ?_, fun i av hi => ?_⟩
    · cases k with
      | zero =>
        simp only [entrySlots, List.getElem?_cons_zero, Option.some.injEq] at hk
        exact ⟨_, hk.symm, h1⟩
      | succ k => exact k3 k o (by simpa [entrySlots] using hk)
    · cases i with
      | zero =>
        simp only [entrySlots, List.getElem?_cons_zero, Option.some.injEq] at hi
        subst hi
        exact ⟨v, rfl, _, Nat.le_refl _, by simp [entrySlots]; rfl, h2, h3, h4⟩
      | succ i =>
        obtain ⟨u, hu, hs⟩ := k4 i av (by simpa [entrySlots] using hi)
        exact ⟨u, by simpa using hu, hs.later⟩
  | .obj e t :: ps, j, d :: ds, v :: vs, h => by
    obtain ⟨h1, h2, h5⟩ := h
    obtain ⟨k1, k2, k3, k4⟩ := entrySlots_rep ps (j + 1) ds vs h5
    refine ⟨by simp [entrySlots, k1], by simp [entrySlots, k2, ioN, PK.io, Nat.add_comm], fun k o hk => ?_, fun i av hi => ?_⟩
    · cases k with
      | zero =>
        simp only [entrySlots, List.getElem?_cons_zero, Option.some.injEq] at hk
        exact ⟨_, hk.symm, h1⟩
      | succ k => exact k3 k o (by simpa [entrySlots] using hk)
    · cases i with
      | zero =>
        simp only [entrySlots, List.getElem?_cons_zero, Option.some.injEq] at hi
        subst hi
        exact ⟨v, rfl, _, Nat.le_refl _, by simp [entrySlots]; rfl, rfl, h2⟩
      | succ i =>
        obtain ⟨u, hu, hs⟩ := k4 i av (by simpa [entrySlots] using hi)
        exact ⟨u, by simpa using hu, hs.later⟩

theorem entryG_matches {M : Nat → Prop} {w : World} {row : Value} {n : Nat} {ps : List PK} {ds : List Dyn} {vs : List Value} (hM : ∀ b, M b → b < w.heap.size) (hrow : ∀ b, row.ownBlock = some b → M b) (h1 : ioN ps = 1) (h : RepIn M w row ps ds vs) (hn : vs.length ≤ n) :
    Matches (fun b => M b ∧ row.ownBlock ≠ some b) (fun b => w.heap.size ≤ b ∨ row.ownBlock = some b) w (n, [row]) (entryG n ps ds) { tmps := vs.toArray ++ Array.replicate (n - vs.toArray.size) undef, defers := [] } w := by
  obtain ⟨k1, k2, k3, k4⟩ := entrySlots_rep ps 0 ds vs h
  rw [h1] at k2
  obtain ⟨ob, hobs⟩ : ∃ ob, (entrySlots ps 0 ds).2 = [some ob] := by
    match he : (entrySlots ps 0 ds).2, k2 with
    | [o], _ =>
      obtain ⟨ob, e, _⟩ := k3 0 o (by rw [he]; rfl)
      exact ⟨ob, by rw [e]⟩
  obtain ⟨ob', e', hin⟩ := k3 0 (some ob) (by rw [hobs]; rfl)
  cases e'
  have hF : ∀ id ob2, obF [some ob] id = some ob2 → id = 0 ∧ ob2 = ob := by
    intro id ob2 h2
    cases id with
    | zero => exact ⟨rfl, by simpa [obF, nthD] using h2.symm⟩
    | succ id => simp [obF, nthD] at h2
  have hMs : ∀ b, Msum (fun b => M b ∧ row.ownBlock ≠ some b) (fun _ => row) (obF [some ob]) b → M b := by
    rintro b (hb | ⟨id, ob2, _, hb⟩)
    · exact hb.1
    · exact hrow b hb
  obtain ⟨q1, q2, xs, q3, q4⟩ := hin
  have hent : entryG n ps ds = ⟨(entrySlots ps 0 ds).1 ++ blank (n - (entrySlots ps 0 ds).1.length), [some ob]⟩ := by simp [entryG, hobs]
  rw [hent]
  refine ⟨rfl, Beyond.refl _ _, by simp [length_blank, k1], by simp; omega, fun _ => row, fun j v hj => ?_, ⟨fun b hb => ?_, fun b hb => .inl hb, fun id ob2 ho => ?_, fun i j obi obj hi hj hij => ?_⟩, fun t => ?_⟩
  · cases j with
    | zero => simp at hj; exact ⟨by simp, hj⟩
    | succ j => simp at hj
  · rintro (h | h)
    · have := hM b hb.1; omega
    · exact hb.2 h
  · obtain ⟨rfl, rfl⟩ := hF id ob2 ho
    exact ⟨q1, q2, xs, ⟨q3, fun b hb => .inr hb⟩, q4.next (Agree.refl _ _) (fun b _ hb => hMs b hb)⟩
  · obtain ⟨rfl, _⟩ := hF i obi hi
    obtain ⟨rfl, _⟩ := hF j obj hj
    exact absurd rfl hij
  · by_cases ht : t < (entrySlots ps 0 ds).1.length
    · obtain ⟨v, h2, h3⟩ := k4 t _ (List.getElem?_eq_getElem ht)
      have e1 : nthD AV.bad ((entrySlots ps 0 ds).1 ++ blank (n - (entrySlots ps 0 ds).1.length)) t = (entrySlots ps 0 ds).1[t] := by
        rw [nthD_eq, List.getD_eq_getElem?_getD, List.getElem?_append_left ht]
        simp [ht]
      have e2 : ({ tmps := vs.toArray ++ Array.replicate (n - vs.toArray.size) undef, defers := [] } : Act).tmps.getD t undef = v := by
        rw [Array.getD_eq_getD_getElem?, Array.getElem?_append_left (by simp; omega)]
        simp [h2]
      rw [e1, e2]
      rw [hobs] at h3
      generalize (entrySlots ps 0 ds).1[t] = av at h3
      unfold SlotOk at h3
      split at h3
      · exact RepV.next (Agree.refl _ _) (fun b _ hb => hMs b hb) h3
      · rename_i id lo m
        obtain ⟨ob2, _, h4, h5, h6, h7⟩ := h3
        have hid : id = 0 ∧ ob2 = ob := by
          cases id with
          | zero => simp at h4; exact ⟨rfl, h4.symm⟩
          | succ id => simp at h4
        obtain ⟨rfl, rfl⟩ := hid
        refine ⟨by simp, fun ob3 ho3 => ?_⟩
        obtain ⟨_, rfl⟩ := hF _ ob3 ho3
        exact ⟨h5, h6, h7⟩
      · rename_i id
        obtain ⟨ob2, _, h4, h5, g, nn, c, h6, h7⟩ := h3
        have hid : id = 0 ∧ ob2 = ob := by
          cases id with
          | zero => simp at h4; exact ⟨rfl, h4.symm⟩
          | succ id => simp at h4
        obtain ⟨rfl, rfl⟩ := hid
        refine ⟨by simp, fun ob3 ho3 => ?_⟩
        obtain ⟨_, rfl⟩ := hF _ ob3 ho3
        exact ⟨by omega, g, nn, c, h6, by simpa [offP] using h7⟩
      · exact h3.elim
    · have e1 : nthD AV.bad ((entrySlots ps 0 ds).1 ++ blank (n - (entrySlots ps 0 ds).1.length)) t = .bad := by
        rw [nthD_eq, List.getD_eq_getElem?_getD, List.getElem?_append_right (by omega)]
        have := nthD_blank (n - (entrySlots ps 0 ds).1.length) (t - (entrySlots ps 0 ds).1.length)
        rw [nthD_eq, List.getD_eq_getElem?_getD] at this
        exact this
      rw [e1]
      trivial

/-! ### The end -/
theorem ownFree_spec {io : Nat} {s : St} : ∀ {rv : List ResultVar}, ownFree io s rv = true → ∀ u id, ResultVar.tmp u ∈ rv → nthD .bad s.fr u = .own id → io ≤ id
  | .tmp v :: rs, h, u, id, hm, he => by
    simp only [ownFree, Bool.and_eq_true] at h
    rcases List.mem_cons.1 hm with hm | hm
    · cases hm
      have := h.1
      rw [he] at this
      simpa using this
    · exact ownFree_spec h.2 u id hm he
  | .cell a T :: rs, h, u, id, hm, he => by
    rcases List.mem_cons.1 hm with hm | hm
    · cases hm
    · exact ownFree_spec (by simpa [ownFree] using h) u id hm he

theorem outsK_one {s : St} : ∀ (ps : List PK) (os : List Dyn), ioN ps = 1 → outsK s ps 0 = some os → ∃ ob o, nthD none s.obs 0 = some ob ∧ os = [o] ∧ ∀ p ob', ioP ps = some p → p.ob o = some ob' → ob' = ob
  | [], os, h, _ => by simp [ioN] at h
  | .val t :: ps, os, h, ho => by
    obtain ⟨ob, o, h1, h2, h3⟩ := outsK_one ps os (by simpa [ioN, PK.io] using h) (by simpa [outsK] using ho)
    exact ⟨ob, o, h1, h2, fun p ob' hp => h3 p ob' (by simpa [ioP] using hp)⟩
  | .win e t :: ps, os, h, ho => by
    have h0 : ioN ps = 0 := by simpa [ioN, PK.io] using h
    have hn : ∀ (ps : List PK) (j : Nat), ioN ps = 0 → outsK s ps j = some [] := by
      intro ps
      induction ps with
      | nil => intro j _; rfl
      | cons p ps ih =>
        intro j hp
        cases p <;> simp [ioN, PK.io] at hp
        simpa [outsK] using ih j hp
    simp only [outsK, hn ps 1 h0] at ho
    split at ho
    · rename_i ob ds hob hds
      split at ho
      · rename_i hc
        simp only [Bool.and_eq_true, decide_eq_true_eq] at hc
        simp only [Option.some.injEq] at ho hds
        subst ho hds
        refine ⟨ob, _, hob, rfl, fun p ob' hp hob' => ?_⟩
        simp only [ioP, Option.some.injEq] at hp
        subst hp
        simp only [PK.ob, Option.some.injEq] at hob'
        rw [← hob', ← hc.1]
      · cases ho
    · cases ho
  | .obj e t :: ps, os, h, ho => by
    have h0 : ioN ps = 0 := by simpa [ioN, PK.io] using h
    have hn : ∀ (ps : List PK) (j : Nat), ioN ps = 0 → outsK s ps j = some [] := by
      intro ps
      induction ps with
      | nil => intro j _; rfl
      | cons p ps ih =>
        intro j hp
        cases p <;> simp [ioN, PK.io] at hp
        simpa [outsK] using ih j hp
    simp only [outsK, hn ps 1 h0] at ho
    split at ho
    · rename_i ob ds hob hds
      obtain ⟨oe, ot, ol⟩ := ob
      simp only at ho
      match ol, ho, hob with
      | [x], ho, hob =>
        simp only at ho
        split at ho
        · rename_i hc
          simp only [Bool.and_eq_true, decide_eq_true_eq] at hc
          simp only [Option.some.injEq] at ho hds
          subst ho hds
          refine ⟨_, _, hob, rfl, fun p ob' hp hob' => ?_⟩
          simp only [ioP, Option.some.injEq] at hp
          subst hp
          simp only [PK.ob, Option.some.injEq] at hob'
          rw [← hob', ← hc.1]
        · cases ho
    · cases ho

section
variable {f : FuncId} {n : Nat} {rv : List ResultVar} {c : Code} {tys : List (TypeId × TI)} {fns : Nat → List (FuncId × FS)} {fgs : Nat → List (FuncId × FG)} {fws : Nat → List (FuncId × FW)} {ps : List PK} {rs : List Ty} {pts : List (Pt (TD (ps.flatMap PK.outs ++ rs)))}

theorem end_postG {tyof : TypeId → Option TI} (hty : ∀ T ti, tyof T = some ti → TyOk P T ti) {fn : Func} (hrv : fn.results.toList = rv) (h1 : ioN ps = 1) {M : Nat → Prop} {w : World} {row : Value} {r : TD (ps.flatMap PK.outs ++ rs)} (e : Exit) (a : Act) (w' : World)
    (h : QR (endG tyof rv ps rs) (fun b => M b ∧ row.ownBlock ≠ some b) (fun b => w.heap.size ≤ b ∨ row.ownBlock = some b) w (n, [row]) r e a w') :
    bodyPost P fn (fun e w' => ∃ us o rds, e = .returned (tupleOf us) ∧ encT (ps.flatMap PK.outs ++ rs) r = o :: rds ∧ (∀ p ob, ioP ps = some p → p.ob o = some ob → ObIn M w' row ob) ∧
      RepDs M w' rds us ∧ Beyond (fun b => w.heap.size ≤ b ∨ row.ownBlock = some b) w w') e a w' := by
  obtain ⟨s, he, k1, k2, k3, hn3, ν, hw, hg, hr⟩ := h
  have key : (match outsK s ps 0, resultsK tyof s rs rv with
      | some os, some ds => bif ownFree (ioN ps) s rv then decT (ps.flatMap PK.outs ++ rs) (os ++ ds) else none
      | _, _ => none) = some r → a.defers = [] ∧ ∃ v, (results fn a.tmps).run P w' = .ok v w' ∧ ∃ us o rds, Ending.returned v = .returned (tupleOf us) ∧ encT (ps.flatMap PK.outs ++ rs) r = o :: rds ∧ (∀ p ob, ioP ps = some p → p.ob o = some ob → ObIn M w' row ob) ∧
        RepDs M w' rds us ∧ Beyond (fun b => w.heap.size ≤ b ∨ row.ownBlock = some b) w w' := by
    intro hk
    split at hk
    · rename_i os ds hos hds
      cases hof : ownFree (ioN ps) s rv <;> rw [hof] at hk
      · cases hk
      simp only [cond_true] at hk
      have henc := decT_enc _ _ _ hk
      obtain ⟨ob, o, hob, rfl, hpo⟩ := outsK_one ps os h1 hos
      have hobF : obF s.obs 0 = some ob := hob
      have hν : ν 0 = row := (hw 0 row rfl).2
      have hM : ∀ b, M b → Msum (fun b => M b ∧ row.ownBlock ≠ some b) ν (obF s.obs) b := by
        intro b hb
        by_cases e : row.ownBlock = some b
        · exact .inr ⟨0, ob, hobF, by rw [hν]; exact e⟩
        · exact .inl ⟨hb, e⟩
      obtain ⟨us, q1, q2⟩ := results_at hty hrv hg hr (M' := M) hM (fun u id ob2 hu hav hob2 b hb hm => by
        have hge := ownFree_spec hof u id hu hav
        rw [h1] at hge
        have hB := (hg.ob id ob2 hob2).2.2.choose_spec.1.2 b hb
        by_cases e : row.ownBlock = some b
        · exact hg.ne 0 id ob ob2 hobF hob2 (by omega) b (by rw [hν]; exact e) hb
        · exact hg.m0 b ⟨hm, e⟩ hB) hds
      refine ⟨k1, _, q1, us, o, ds, rfl, by rw [henc]; rfl, fun p ob' hp hob' => ?_, q2, k2⟩
      rw [hpo p ob' hp hob']
      obtain ⟨z1, z2, xs, z3, z4⟩ := hg.ob 0 ob hobF
      rw [hν] at z3
      exact ⟨z1, z2, xs, z3.1, z4.next (Agree.refl _ _) (fun b _ hb => hM b hb)⟩
    · cases hk
  cases e with
  | normal => exact key he
  | ret => exact key he
  | _ => simp [endG] at he

theorem RepIn.len {M : Nat → Prop} {w : World} {row : Value} {ps : List PK} {ds : List Dyn} {vs : List Value} (h : RepIn M w row ps ds vs) : vs.length = ps.length := by
  induction ps generalizing ds vs with
  | nil =>
    match ds, vs, h with
    | [], [], _ => rfl
  | cons p ps ih =>
    cases p with
    | val t =>
      match ds, vs, h with
      | d :: ds, v :: vs, h => simp [ih h.2]
    | win e t =>
      match ds, vs, h with
      | ⟨.list u, l⟩ :: ⟨.flt, lo⟩ :: ⟨.flt, n⟩ :: ds, v :: vs, h => simp [ih h.2.2.2.2]
    | obj e t =>
      match ds, vs, h with
      | d :: ds, v :: vs, h => simp [ih h.2.2]

theorem fn_soundG (hf : FnOk P f n rv c ps.length) (h1 : ioN ps = 1) (hmix : P.follows .mixedOrders = true) (hty : tysB P tys = true) (hpt : PtsOk (mkE tys fns fgs fws pts) 1 n (endG (lookT tys) rv ps rs) c pts) {main : Nat → TD (ps.flatMap PK.ins) → Option (TD (ps.flatMap PK.outs ++ rs))}
    (hmain : ∀ k x, fnG (mkE tys fns fgs fws pts k) n rv c (encT (ps.flatMap PK.ins) x) = main k x) (hall : ∀ k, AllK P (fns k) (fgs k) (fws k)) (k : Nat) : ContractG P f ⟨ps, rs, main k⟩ := by
  intro x r hx M w vs row hM hrow hin
  replace hx : main k x = some r := hx
  rw [← hmain k x] at hx
  obtain ⟨fn, hfn, hb, hn, hrv, hname⟩ := hf.ok
  left
  have hname' : ¬ fn.name = "runtime.NumGoroutine" := by simpa using hname
  refine ⟨by simp [callFunc, hfn, hname', hb], calls_of_wp hfn hb ?_⟩
  rw [hn]
  have hlen := RepIn.len hin
  have hm := entryG_matches (n := n) hM hrow h1 hin (by rw [hlen]; exact hf.np)
  have hp := points_sound (ro := [row]) hmix hty hf.pts hpt (M0 := fun b => M b ∧ row.ownBlock ≠ some b) (b0 := fun b => w.heap.size ≤ b ∨ row.ownBlock = some b) (w0 := w) (r := r) k (fun j _ => hall j)
  have := codeK_sound (fun T ti h => tysB_ok hty T ti h) ⟨fun g gs h => lookF_ok (hall k).1 g gs h, fun g gs h => lookW_ok (hall k).2.2 g gs h, fun g gs h => lookG_ok (hall k).2.1 g gs h⟩ hmix c 0 _ _ _ _ w hx hf.pts hp (fun e s' a' w' he hm' => ⟨s', he, hm'⟩) hm
  exact wp_mono this fun e a w' h => end_postG (fun T ti h => tysB_ok hty T ti h) hrv h1 e a w' h

end
section
variable {f : FuncId} {n : Nat} {rv : List ResultVar} {c : Code} {tys : List (TypeId × TI)} {fns : Nat → List (FuncId × FS)} {fgs : Nat → List (FuncId × FG)} {fws : Nat → List (FuncId × FW)} {ps : List Ty} {e : TypeId} {t : Ty} {bx : Bool} {pts : List (Pt (List t.D))}

theorem castD_list {ob : Ob} {t : Ty} {r : List t.D} {e : TypeId} (h : (if ob.e = e then castD (.list ob.t) (.list t) ob.l else none) = some r) : ob = ⟨e, t, r⟩ := by
  split at h
  · rename_i he
    obtain ⟨oe, ot, ol⟩ := ob
    simp only at he
    subst he
    unfold castD at h
    split at h
    · rename_i hc
      simp only [Ty.list.injEq] at hc
      subst hc
      simp only [Option.some.injEq] at h
      rw [← h]
    · cases h
  · cases h

theorem end_postW {fn : Func} (hrv : fn.results.toList = rv) {M : Nat → Prop} {w : World} {nt : Nat × List Value} {r : List t.D} (ex : Exit) (a : Act) (w' : World)
    (h : QR (endW rv e t bx) M (w.heap.size ≤ ·) w nt r ex a w') :
    bodyPost P fn (fun en w' => ∃ v row, en = .returned v ∧ (if bx = true then 0 < r.length ∧ ∃ g n c, row = .slice (some ⟨g, 0, none⟩) n c ∧ v = .pointer (some ⟨g, 0, none⟩) else v = row) ∧
      (∀ b, row.ownBlock = some b → w.heap.size ≤ b) ∧ ObIn (fun b => M b ∨ row.ownBlock = some b) w' row ⟨e, t, r⟩ ∧ Below w.heap.size w w') ex a w' := by
  obtain ⟨s, he, k1, k2, k3, hn3, ν, hw, hg, hr⟩ := h
  have hres : ∀ u, rv = [.tmp u] → (results fn a.tmps).run P w' = .ok (a.tmps.getD u undef) w' := by
    intro u hu
    have := results_tuple (P := P) (fn := fn) (tmps := a.tmps) (w := w') (us := [a.tmps.getD u undef]) (fun f hf hc => by rw [hrv, hu]; simp [List.mapM_cons, hf])
    simpa [tupleOf] using this
  have hob : ∀ id, obF s.obs id = some ⟨e, t, r⟩ → (∀ b, (ν id).ownBlock = some b → w.heap.size ≤ b) ∧ ObIn (fun b => M b ∨ (ν id).ownBlock = some b) w' (ν id) ⟨e, t, r⟩ := by
    intro id hid
    obtain ⟨q1, q2, xs, q3, q4⟩ := hg.ob id _ hid
    refine ⟨q3.2, q1, q2, xs, q3.1, q4.next (Agree.refl _ _) (fun b _ hb => ?_)⟩
    rcases hb with hb | hb
    · exact .inl hb
    · exact .inr ⟨id, _, hid, hb⟩
  have key : endW1 rv e t bx s = some r → a.defers = [] ∧ ∃ v, (results fn a.tmps).run P w' = .ok v w' ∧ ∃ v' row, Ending.returned v = .returned v' ∧ (if bx = true then 0 < r.length ∧ ∃ g n c, row = .slice (some ⟨g, 0, none⟩) n c ∧ v' = .pointer (some ⟨g, 0, none⟩) else v' = row) ∧
        (∀ b, row.ownBlock = some b → w.heap.size ≤ b) ∧ ObIn (fun b => M b ∨ row.ownBlock = some b) w' row ⟨e, t, r⟩ ∧ Below w.heap.size w w' := by
    intro hk
    refine ⟨k1, ?_⟩
    unfold endW1 at hk
    split at hk
    · rename_i u
      have hru := hr u
      split at hk
      · rename_i id hav
        rw [hav] at hru
        cases hbx : bx <;> rw [hbx] at hk
        · simp only [cond_false] at hk
          split at hk
          · rename_i ob hob'
            have e1 := castD_list hk
            subst e1
            obtain ⟨q1, q2⟩ := hob id hob'
            exact ⟨_, hres u rfl, _, ν id, rfl, by simp [hru.2], q1, q2, k2.below⟩
          · cases hk
        · cases hk
      · rename_i hav
        rw [hav] at hru
        have hnil : a.tmps.getD u undef = .slice none 0 0 := hru
        cases hbx : bx <;> rw [hbx] at hk
        · simp only [cond_false] at hk
          split at hk
          · rename_i hc
            simp only [Bool.and_eq_true, decide_eq_true_eq] at hc
            simp only [Option.some.injEq] at hk
            subst hk
            exact ⟨_, hres u rfl, _, .slice none 0 0, rfl, by simp [hnil], (fun b hb => by cases hb), ⟨hc.1, hc.2, [], World.ownsRow_nil _ _ _ _, RepRow.nil _ _ _⟩, k2.below⟩
          · cases hk
        · cases hk
      · rename_i id hav
        rw [hav] at hru
        cases hbx : bx <;> rw [hbx] at hk
        · cases hk
        · simp only [cond_true] at hk
          split at hk
          · rename_i ob hob'
            have e1 := castD_list hk
            subst e1
            obtain ⟨q1, q2⟩ := hob id hob'
            obtain ⟨p1, g, n', c', p2, p3⟩ := hru.2 _ hob'
            exact ⟨_, hres u rfl, _, ν id, rfl, by simp only [if_true]; exact ⟨p1, g, n', c', p2, by simpa [offP] using p3⟩, q1, q2, k2.below⟩
          · cases hk
      · cases hk
    · cases hk
  cases ex with
  | normal => exact key he
  | ret => exact key he
  | _ => simp [endW] at he

theorem fn_soundW (hf : FnOk P f n rv c ps.length) (hmix : P.follows .mixedOrders = true) (hty : tysB P tys = true) (hpt : PtsOk (mkE tys fns fgs fws pts) 0 n (endW rv e t bx) c pts) {main : Nat → TD ps → Option (List t.D)}
    (hmain : ∀ k x, fnW (mkE tys fns fgs fws pts k) n rv e bx c (encT ps x) = main k x) (hall : ∀ k, AllK P (fns k) (fgs k) (fws k)) (k : Nat) : ContractW P f ⟨ps, e, t, bx, main k⟩ := by
  intro x r hx M w vs hM hvs
  replace hx : main k x = some r := hx
  rw [← hmain k x] at hx
  obtain ⟨fn, hfn, hb, hn, hrv, hname⟩ := hf.ok
  left
  have hname' : ¬ fn.name = "runtime.NumGoroutine" := by simpa using hname
  refine ⟨by simp [callFunc, hfn, hname', hb], calls_of_wp hfn hb ?_⟩
  rw [hn]
  have hm := entry_matches (nt := n) hM hvs (by simp only [encT_length]; exact hf.np)
  have hp := points_sound (ro := []) hmix hty hf.pts hpt (M0 := M) (b0 := (w.heap.size ≤ ·)) (w0 := w) (r := r) k (fun j _ => hall j)
  have := codeK_sound (fun T ti h => tysB_ok hty T ti h) ⟨fun g gs h => lookF_ok (hall k).1 g gs h, fun g gs h => lookW_ok (hall k).2.2 g gs h, fun g gs h => lookG_ok (hall k).2.1 g gs h⟩ hmix c 0 _ _ _ _ w hx hf.pts hp (fun e s' a' w' he hm' => ⟨s', he, hm'⟩) hm
  exact wp_mono this fun e a w' h => end_postW hrv e a w' h

end
end Go.FK
