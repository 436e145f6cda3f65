/- Operations that write nothing that is there, third part: literals, slices, fields, elements, calls; and all of them together. -/
import Derived.Test.YtiacmfebhoodnaaFkG
import Derived.Laws.Tables
namespace Go.FK
open Go.RowKit

variable {P : Program} {nid : Nat} {obsm : Obs} {ρ : Operand → AV} {X R : Type}

/-! ### Struct literals -/
theorem foldl_splice (off : Nat) : ∀ (vs : List Value) (k : Nat) (cs : Array Value), off + k + vs.length ≤ cs.size →
    ((vs.zipIdx k).foldl (fun cs (c, j) => cs.setIfInBounds (off + j) c) cs).toList = splice cs.toList (off + k) vs
  | [], k, cs, _ => by simp [splice]
  | v :: vs, k, cs, h => by
    simp only [List.zipIdx_cons, List.foldl_cons]
    rw [foldl_splice off vs (k + 1) _ (by simp at h ⊢; omega)]
    simp only [List.length_cons] at h
    apply List.ext_getElem?
    intro j
    rw [splice_get _ _ _ (by simp; omega), splice_get _ _ _ (by simp; omega)]
    simp only [Array.toList_setIfInBounds, List.getElem?_set, List.length_cons]
    by_cases c1 : j < off + k
    · simp [c1, show j < off + (k + 1) by omega, show ¬ (off + k = j) by omega]
    · by_cases c2 : j = off + k
      · subst c2
        simp [show off + k < cs.size by omega]
      · by_cases c3 : j < off + k + (vs.length + 1)
        · have e : j - (off + k) = (j - (off + (k + 1))) + 1 := by omega
          simp [c1, c3, show ¬ j < off + (k + 1) by omega, show j < off + (k + 1) + vs.length by omega, e]
        · simp [c1, c3, show ¬ j < off + (k + 1) by omega, show ¬ j < off + (k + 1) + vs.length by omega, show ¬ (off + k = j) by omega]

theorem fill_step (place : Nat → Option (Nat × Nat)) (cells : Array Value) (i : Nat) (v : Value) (rest : List (Nat × Value)) (off size : Nat) (hp : place i = some (off, size)) (hv : v.cells.size = size) (hb : off + size ≤ cells.size) :
    ∃ cells', Instr.fill place cells ((i, v) :: rest) = Instr.fill place cells' rest ∧ cells'.toList = splice cells.toList off v.cells.toList := by
  refine ⟨_, by simp only [Instr.fill, hp]; rw [if_neg (by simp [hv]; omega)], ?_⟩
  have := foldl_splice off v.cells.toList 0 cells (by simp [hv]; omega)
  rw [Nat.add_zero] at this
  rw [← Array.foldl_toList, Array.toList_zipIdx]
  exact this

theorem setParts_sound {M : Nat → Prop} {ν : Nat → Value} {dom : Nat → Prop} {obs : Obs} {w : World} {ev : Operand → Value} {fs : List Field} {t : Ty} (ht : t.ok true = true) (hf : FieldsOk P t fs 0) (place : Nat → Option (Nat × Nat))
    (hplace : ∀ (j : Nat) (f : Field) (n : Nat), fs[j]? = some f → (∃ i, P.info? f.type = some i ∧ i.size = n) → place j = some (f.offset, n)) :
    ∀ (ps : List (Nat × Operand)) (x y : t.D) (cells : Array Value), (∀ p ∈ ps, RepA M ν dom obs w (ρ p.2) (ev p.2)) → Rep M w t x cells.toList → setParts t x (ps.map fun p => (p.1, ρ p.2)) = some y →
      ∃ cells', Instr.fill place cells (ps.map fun p => (p.1, ev p.2)) = some cells' ∧ Rep M w t y cells'.toList
  | [], x, y, cells, _, hr, h => by
    simp only [List.map_nil, setParts, Option.some.injEq] at h
    subst h
    exact ⟨cells, rfl, hr⟩
  | p :: ps, x, y, cells, hp, hr, h => by
    simp only [List.map_cons, setParts] at h
    split at h
    · rename_i y' hy'
      obtain ⟨d, hd, z, hz, hrep⟩ := Rep.setF t x _ p.1 _ y' ht hr hy'
      obtain ⟨hdo, hdb, _⟩ := Rep.field t x _ p.1 d ht hr hd
      obtain ⟨f, hff, h1, h2, h3, i, hi, hisz⟩ := FieldsOk.at_ t x fs 0 p.1 d hf hd
      split at hz
      · rename_i d' hd'
        have hv := toDyn_rep hd' (hp p (by simp))
        obtain ⟨e, he⟩ := castD_eq hz
        obtain ⟨dt, dx⟩ := d'
        obtain ⟨ft, fx⟩ := d
        simp only at e he hv hdo hdb hrep hisz h1
        subst e
        simp only at he
        subst he
        obtain ⟨_, cs, hc, hev⟩ := hv
        have hcells : (ev p.2).cells = cs.toArray := by rw [hev]; exact ofCells_cells hdo hc
        have hl := Rep.len _ _ _ hc
        have hlen := Rep.len _ _ _ hr
        simp only [Nat.zero_add] at h1
        obtain ⟨cells', e1, e2⟩ := fill_step place cells p.1 (ev p.2) (ps.map fun p => (p.1, ev p.2)) f.offset dt.sz (hplace _ f _ hff ⟨i, hi, hisz⟩) (by simp [hcells, hl]) (by rw [h1]; simp at hlen; omega)
        have hr' := hrep cs hc
        obtain ⟨cells'', e3, e4⟩ := setParts_sound ht hf place hplace ps y' y cells' (fun q hq => hp q (by simp [hq])) (by rw [e2, hcells, h1]; exact hr') h
        exact ⟨cells'', by simp only [List.map_cons]; rw [e1, e3], e4⟩
      · cases hz
    · cases h

theorem mapM_fields (fs : List Field) (h : ∀ f ∈ fs, ∃ i, P.info? f.type = some i) :
    fs.mapM (fun f => (P.info? f.type).map fun i => (f.offset, i.size)) = some (fs.map fun f => (f.offset, ((P.info? f.type).map (·.size)).getD 0)) := by
  induction fs with
  | nil => rfl
  | cons f fs ih =>
    obtain ⟨i, hi⟩ := h f (by simp)
    simp only [List.mapM_cons, hi, Option.map_some, ih (fun g hg => h g (by simp [hg])), List.map_cons, Option.getD_some]
    rfl

theorem fields_info : ∀ (t : Ty) (fs : List Field) (off : Nat), FieldsOk P t fs off → ∀ f ∈ fs, ∃ i, P.info? f.type = some i
  | .unit, fs, _, h, f, hf => by
    simp only [FieldsOk] at h
    subst h
    simp at hf
  | .pair a b, fs, off, h, f, hf => by
    obtain ⟨g, r, rfl, ⟨_, _, _, i, hi, _⟩, h2⟩ := h
    rcases List.mem_cons.1 hf with rfl | hf
    · exact ⟨i, hi⟩
    · exact fields_info b r _ h2 f hf
  | .int _, fs, off, h, f, hf => by
    obtain ⟨g, rfl, _, _, _, i, hi, _⟩ := h; simp at hf; subst hf; exact ⟨i, hi⟩
  | .bool, fs, off, h, f, hf => by
    obtain ⟨g, rfl, _, _, _, i, hi, _⟩ := h; simp at hf; subst hf; exact ⟨i, hi⟩
  | .str, fs, off, h, f, hf => by
    obtain ⟨g, rfl, _, _, _, i, hi, _⟩ := h; simp at hf; subst hf; exact ⟨i, hi⟩
  | .flt, fs, off, h, f, hf => by
    obtain ⟨g, rfl, _, _, _, i, hi, _⟩ := h; simp at hf; subst hf; exact ⟨i, hi⟩
  | .list _, fs, off, h, f, hf => by
    obtain ⟨g, rfl, _, _, _, i, hi, _⟩ := h; simp at hf; subst hf; exact ⟨i, hi⟩
  | .st _, fs, off, h, f, hf => by
    obtain ⟨g, rfl, _, _, _, i, hi, _⟩ := h; simp at hf; subst hf; exact ⟨i, hi⟩

theorem build_sound {E : Env X} (hty : ∀ T ti, E.ty T = some ti → TyOk P T ti) {cons : Bool} {T : TypeId} {ps : Array (Nat × Operand)} {K : AV → Option Ob → Option R} {r : R}
    (h : freeK E nid cons obsm ρ (.build T ps) K = some r) : ∃ av nob, K av nob = some r ∧ FreeSound P nid obsm ρ (.build T ps) av nob := by
  simp only [freeK] at h
  split at h
  · rename_i t el eb hti
    split at h
    · rename_i y hy
      have htok := hty T _ hti
      refine ⟨_, _, h, freeSound_pure fun M0 b0 ν obs dom w a o ho hg hdm hs hr => ?_⟩
      obtain ⟨inf, hinf, _, z, hz, hzc⟩ := htok.2.1
      obtain ⟨fs, hu, hfs⟩ : ∃ fs, P.underlying T = some (.struct fs) ∧ FieldsOk P t fs.toList 0 := by simpa [Shape] using htok.2.2
      have ht : t.ok true = true := by simpa [Ty.ok] using htok.1
      have hz0 : Rep (Msum M0 ν obs) w t t.zero z.cells.toList := by rw [hzc]; exact Rep.zcells _ _ (.st t)
      let places := fs.toList.map fun f => (f.offset, ((P.info? f.type).map (·.size)).getD 0)
      obtain ⟨cells, e1, e2⟩ := setParts_sound (P := P) (ev := a.eval) ht hfs (fun i => places[i]?) (fun j f n hj ⟨i, hi, hn⟩ => by
        simp only [places, List.getElem?_map, hj, Option.map_some, hi, hn, Option.getD_some]) ps.toList t.zero y z.cells (fun p hp => hr p.2 (by simp [Op.operands]; exact ⟨p.1, by simpa using hp⟩)) hz0 hy
      refine ⟨.agg cells, ?_, htok.1, _, e2, by simp [ofCells, Ty.isSt]⟩
      have hb : P.built T (ps.map fun x => (x.1, a.eval x.2)).toList = some cells := by
        unfold Program.built
        simp only [hinf, hu, hz, mapM_fields _ (fields_info t _ _ hfs)]
        simpa [places] using e1
      simp [execOp, ho, run_build w T _ cells hb]
    · cases h
  · cases h

end Go.FK
