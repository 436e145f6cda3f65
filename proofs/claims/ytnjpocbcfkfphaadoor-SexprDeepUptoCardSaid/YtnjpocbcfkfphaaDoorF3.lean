import Derived.Test.YtnjpocbcfkfphaaDoorF4
import Derived.Test.YtnjpocbcfkfphaaDoorRows
import Derived.ProofKit
import Derived.Laws.Cover2

/- What a reading of an argument tells: data of its type. -/
namespace Go.FK
open Go.RowKit
variable {P : Program}
def typeAt : TypeId ⊕ (List Field × Nat) → Option TypeId
  | .inl T => some T
  | .inr ([f], off) => if f.offset = off then some f.type else none
  | _ => none
def deepG (P : Program) : Ty → TypeId ⊕ (List Field × Nat) → Bool
  | .int k, x => match typeAt x with
    | some T => (match P.underlying T with | some (.int k') => k == k' | _ => false) && P.cellsOf T == 1
    | none => false
  | .bool, x => match typeAt x with
    | some T => (match P.underlying T with | some .bool => true | _ => false) && P.cellsOf T == 1
    | none => false
  | .str, x => match typeAt x with
    | some T => (match P.underlying T with | some .string => true | _ => false) && P.cellsOf T == 1
    | none => false
  | .flt, x => match typeAt x with
    | some T => (match P.underlying T with | some (.float .f64) => true | _ => false) && P.cellsOf T == 1
    | none => false
  | .list t, x => match typeAt x with
    | some T => (match P.underlying T with | some (.slice e) => deepG P t (.inl e) && decide (0 < t.sz) && P.cellsOf e == t.sz | _ => false) && P.cellsOf T == 1
    | none => false
  | .st t, x => match typeAt x with
    | some T => (match P.underlying T with | some (.struct fs) => deepG P t (.inr (fs.toList, 0)) | some (.array n e) => deepG P t (.inr (elemFs e n (P.cellsOf e), 0)) | _ => false) && P.cellsOf T == t.sz
    | none => false
  | .pair a b, .inr (f :: r, off) => f.offset == off && P.cellsOf f.type == a.sz && deepG P a (.inl f.type) && deepG P b (.inr (r, off + a.sz))
  | _, _ => false
def Ty.wf : (t : Ty) → t.D → Prop
  | .int k, n => k.min ≤ n ∧ n ≤ k.max
  | .bool, _ => True
  | .str, s => s.size ≤ maxLen
  | .flt, b => b < 2 ^ 64
  | .fnc _, _ => True
  | .nilI, _ => True
  | .kids, _ => True
  | .list t, l => l.length ≤ maxLen ∧ ∀ x ∈ l, t.wf x
  | .st t, x => t.wf x
  | .unit, _ => True
  | .pair a b, x => a.wf x.1 ∧ b.wf x.2
def Ty.mass : (t : Ty) → t.D → Nat
  | .int _, _ => 1
  | .bool, _ => 1
  | .str, s => s.size + 1
  | .flt, _ => 1
  | .fnc _, _ => 1
  | .nilI, _ => 1
  | .kids, _ => 1
  | .list t, l => (l.map t.mass).sum + 1
  | .st t, x => t.mass x
  | .unit, _ => 0
  | .pair a b, x => a.mass x.1 + b.mass x.2
open Go.Proofs.YtnjpocbcfkfphaaDoor.Rows (uptoBulk uptoBulkAll)
def Told (t : Ty) (w : World) (cs : List Value) (n : Nat) : Prop := ∃ d : t.D, Rep (fun _ => False) w t d cs ∧ t.wf d ∧ t.mass d ≤ n ∧ cs.length = t.sz
theorem open_list {t : Ty} {H : Type} (Q : Nat → t.D → Prop) : ∀ (elems : List (DataW H × List MemPlace)), (∀ (i : Nat) (x : DataW H × List MemPlace), elems[i]? = some x → ∃ d : t.D, Q i d ∧ t.wf d ∧ t.mass d ≤ uptoBulk x.1) →
    ∃ l : List t.D, l.length = elems.length ∧ (∀ i d, l[i]? = some d → Q i d) ∧ (∀ d ∈ l, t.wf d) ∧ (l.map t.mass).sum ≤ uptoBulkAll (elems.map (·.1)) := by
  intro elems
  induction elems generalizing Q with
  | nil => intro _; exact ⟨[], rfl, (fun i d h => by simp at h), (fun d h => by cases h), by simp⟩
  | cons e es ih =>
    intro h
    obtain ⟨d, h1, h2, h3⟩ := h 0 e rfl
    obtain ⟨l, k1, k2, k3, k4⟩ := ih (fun i d => Q (i + 1) d) fun i x hx => h (i + 1) x (by simpa using hx)
    refine ⟨d :: l, by simp [k1], fun i d' hi => ?_, fun d' hd => ?_, by simp only [List.map_cons, List.sum_cons, uptoBulkAll]; omega⟩
    · cases i with
      | zero => simp at hi; subst hi; exact h1
      | succ i => exact k2 i d' (by simpa using hi)
    · rcases List.mem_cons.1 hd with hd | hd
      · subst hd; exact h2
      · exact k3 d' hd
theorem deep_off {b : Ty} : ∀ (r : List Field) (off : Nat), deepG P b (.inr (r, off)) = true → ∀ f ∈ r, off ≤ f.offset := by
  have one : ∀ (r : List Field) (off : Nat) (T : TypeId), typeAt (.inr (r, off)) = some T → ∀ f ∈ r, off ≤ f.offset := by
    intro r off T h f hf
    match r, h with
    | [g], h =>
      simp only [typeAt] at h
      split at h
      · rename_i e
        simp only [List.mem_singleton] at hf
        subst hf
        omega
      · cases h
    | g :: g' :: r, h => simp [typeAt] at h
  have at' : ∀ (r : List Field) (off : Nat) (q : TypeId → Bool), (match typeAt (.inr (r, off)) with | some T => q T | none => false) = true → ∀ f ∈ r, off ≤ f.offset := by
    intro r off q h
    split at h
    · rename_i T hT; exact one r off T hT
    · cases h
  induction b with
  | pair a b _ ihb =>
    intro r off h f hf
    match r, h with
    | [], _ => cases hf
    | g :: r, h =>
      simp only [deepG, Bool.and_eq_true, beq_iff_eq] at h
      rcases List.mem_cons.1 hf with hf | hf
      · subst hf; omega
      · have := ihb r (off + a.sz) h.2 f hf
        omega
  | int k => intro r off h; exact at' r off _ h
  | bool => intro r off h; exact at' r off _ h
  | str => intro r off h; exact at' r off _ h
  | list t _ => intro r off h; exact at' r off _ h
  | st t _ => intro r off h; exact at' r off _ h
  | flt => intro r off h; exact at' r off _ h
  | fnc f => intro r off h; simp [deepG] at h
  | nilI => intro r off h; simp [deepG] at h
  | kids => intro r off h; simp [deepG] at h
  | unit => intro r off h; simp [deepG] at h
def Reads {H : Type} (enc : TypeId × Value → H) (P : Program) (w : World) (sp : Nat → Bool) (held : Bool) (fuel : Nat) : TypeId ⊕ (List Field × Nat) → List Value → Nat → Prop
  | .inl T, cs, n => ∃ x, DataW.trod enc P w 0 sp held fuel T cs = some x ∧ uptoBulk x.1 ≤ n
  | .inr (fs, off), cs, n => ∃ xs : List (DataW H × List MemPlace), xs.length = fs.length ∧ uptoBulkAll (xs.map (·.1)) ≤ n ∧ ∀ (i : Nat) (f : Field), fs[i]? = some f → DataW.trod enc P w 0 sp held fuel f.type ((cs.drop (f.offset - off)).take (P.cellsOf f.type)) = xs[i]?
theorem Reads.one {H : Type} {enc : TypeId × Value → H} {w : World} {sp : Nat → Bool} {held : Bool} {fuel : Nat} {x : TypeId ⊕ (List Field × Nat)} {cs : List Value} {n : Nat} {T : TypeId} (hT : typeAt x = some T) (hl : P.cellsOf T = cs.length) (h : Reads enc P w sp held fuel x cs n) :
    ∃ y, DataW.trod enc P w 0 sp held fuel T cs = some y ∧ uptoBulk y.1 ≤ n := by
  match x, hT, h with
  | .inl U, hT, h =>
    simp only [typeAt, Option.some.injEq] at hT
    subst hT
    exact h
  | .inr ([f], off), hT, h =>
    simp only [typeAt] at hT
    split at hT
    · rename_i e
      simp only [Option.some.injEq] at hT
      subst hT
      obtain ⟨xs, h1, h2, h3⟩ := h
      match xs, h1 with
      | [y], _ =>
        have := h3 0 f rfl
        rw [e, Nat.sub_self, List.drop_zero, hl, List.take_length] at this
        exact ⟨y, by simpa using this, by simpa [uptoBulkAll] using h2⟩
    · cases hT
theorem trod_flt {H : Type} {enc : TypeId × Value → H} {w : World} {sp : Nat → Bool} {held : Bool} {fuel : Nat} {T : TypeId} {cs : List Value} {y : DataW H × List MemPlace} (ht : P.underlying T = some (.float .f64)) (h : DataW.trod enc P w 0 sp held fuel T cs = some y) :
    ∃ b, cs = [.float .f64 b] ∧ y = (.lit (.float .f64 b), []) ∧ (Lit.float .f64 b).wf = true := by
  cases fuel with
  | zero => simp [DataW.trod] at h
  | succ n =>
    unfold DataW.trod at h
    rw [ht] at h
    split at h <;> simp_all
theorem trod_arr {H : Type} {enc : TypeId × Value → H} {w : World} {sp : Nat → Bool} {held : Bool} {fuel : Nat} {T : TypeId} {cs : List Value} {x : DataW H × List MemPlace} {n : Nat} {e : TypeId} (ht : P.underlying T = some (.array n e)) (h : DataW.trod enc P w 0 sp held fuel T cs = some x) :
    ∃ (xs : List (DataW H × List MemPlace)) (m : Nat), fuel = m + 1 ∧ x = (.agg (xs.map (·.1)), xs.flatMap (·.2)) ∧ cs.length = P.cellsOf T ∧ xs.length = n ∧
      ∀ (i : Nat), i < n → DataW.trod enc P w 0 sp held m e ((cs.drop (i * P.cellsOf e)).take (P.cellsOf e)) = xs[i]? := by
  cases fuel with
  | zero => simp [DataW.trod] at h
  | succ m =>
    unfold DataW.trod at h
    rw [ht] at h
    split at h <;> simp_all
    obtain ⟨hl, xs, hp, hd⟩ := h
    exact ⟨xs, hd.symm, by simpa using mapM_some_length hp, fun i hi => mapM_some_get hp i i (by simp [hi])⟩
theorem open_rep {H : Type} {enc : TypeId × Value → H} {w : World} {sp : Nat → Bool} {held : Bool} : ∀ (t : Ty) (x : TypeId ⊕ (List Field × Nat)) (cs : List Value) (n fuel : Nat), deepG P t x = true → cs.length = t.sz → Reads enc P w sp held fuel x cs n → Told t w cs n := by
  intro t
  induction t with
  | int k =>
    intro x cs n fuel hd hl h
    simp only [deepG] at hd
    split at hd
    · rename_i T hT
      simp only [Bool.and_eq_true, beq_iff_eq] at hd
      obtain ⟨hu, hc⟩ := hd
      split at hu
      · rename_i k' hu'
        have hk : k = k' := by simpa using hu
        subst hk
        obtain ⟨y, h1, h2⟩ := h.one hT (by rw [hc, hl]; rfl)
        obtain ⟨m, rfl, rfl, hw⟩ := DataW.trod_int hu' h1
        refine ⟨m, rfl, by simpa [Lit.wf, Ty.wf] using hw, ?_, rfl⟩
        simpa [Ty.mass, uptoBulk] using h2
      · cases hu
    · cases hd
  | bool =>
    intro x cs n fuel hd hl h
    simp only [deepG] at hd
    split at hd
    · rename_i T hT
      simp only [Bool.and_eq_true, beq_iff_eq] at hd
      obtain ⟨hu, hc⟩ := hd
      split at hu
      · rename_i hu'
        obtain ⟨y, h1, h2⟩ := h.one hT (by rw [hc, hl]; rfl)
        obtain ⟨m, rfl, rfl⟩ := DataW.trod_bool hu' h1
        refine ⟨m, rfl, trivial, ?_, rfl⟩
        simpa [Ty.mass, uptoBulk] using h2
      · cases hu
    · cases hd
  | str =>
    intro x cs n fuel hd hl h
    simp only [deepG] at hd
    split at hd
    · rename_i T hT
      simp only [Bool.and_eq_true, beq_iff_eq] at hd
      obtain ⟨hu, hc⟩ := hd
      split at hu
      · rename_i hu'
        obtain ⟨y, h1, h2⟩ := h.one hT (by rw [hc, hl]; rfl)
        obtain ⟨m, rfl, rfl, hm⟩ := DataW.trod_string hu' h1
        refine ⟨m, rfl, hm, ?_, rfl⟩
        have : m.data.toList.length = m.size := by rw [Array.length_toList]; rfl
        simp only [uptoBulk, this] at h2
        exact h2
      · cases hu
    · cases hd
  | fnc f => intro x cs n fuel hd; simp [deepG] at hd
  | nilI => intro x cs n fuel hd; simp [deepG] at hd
  | kids => intro x cs n fuel hd; simp [deepG] at hd
  | flt =>
    intro x cs n fuel hd hl h
    simp only [deepG] at hd
    split at hd
    · rename_i T hT
      simp only [Bool.and_eq_true, beq_iff_eq] at hd
      obtain ⟨hu, hc⟩ := hd
      split at hu
      · rename_i hu'
        obtain ⟨y, h1, h2⟩ := h.one hT (by rw [hc, hl]; rfl)
        obtain ⟨m, rfl, e, hw⟩ := trod_flt hu' h1
        rw [e] at h2
        refine ⟨m, rfl, by simpa [Lit.wf, Ty.wf] using hw, ?_, rfl⟩
        simpa [Ty.mass, uptoBulk] using h2
      · cases hu
    · cases hd
  | unit => intro x cs n fuel hd; simp [deepG] at hd
  | st t ih =>
    intro x cs n fuel hd hl h
    simp only [deepG] at hd
    split at hd
    · rename_i T hT
      simp only [Bool.and_eq_true, beq_iff_eq] at hd
      obtain ⟨hu, hc⟩ := hd
      split at hu
      · rename_i fs hu'
        obtain ⟨y, h1, h2⟩ := h.one hT (by rw [hc, hl]; rfl)
        obtain ⟨xs, m, rfl, rfl, h3, h4, h5⟩ := DataW.trod_struct hu' h1
        have hT := ih (.inr (fs.toList, 0)) cs n m hu hl ⟨xs, by simpa using h4, by simp only [uptoBulk] at h2; omega, fun i f hf => by rw [Nat.sub_zero]; exact h5 i f (by simpa using hf)⟩
        exact hT
      · rename_i q e hu'
        obtain ⟨y, h1, h2⟩ := h.one hT (by rw [hc, hl]; rfl)
        obtain ⟨xs, m, rfl, rfl, h3, h4, h5⟩ := trod_arr hu' h1
        have hT := ih (.inr (elemFs e q (P.cellsOf e), 0)) cs n m hu hl ⟨xs, by simpa [elemFs] using h4, by simp only [uptoBulk] at h2; omega, fun i f hf => by
          obtain ⟨k1, k2⟩ := elemFs_get hf
          have k3 : i < q := by
            have := (List.getElem?_eq_some_iff.1 hf).1
            simpa [elemFs] using this
          rw [Nat.sub_zero, k1, k2]
          exact h5 i k3⟩
        exact hT
      · cases hu
    · cases hd
  | pair a b iha ihb =>
    intro x cs n fuel hd hl h
    match x, hd, h with
    | .inr (f :: r, off), hd, h =>
      simp only [deepG, Bool.and_eq_true, beq_iff_eq] at hd
      obtain ⟨⟨⟨d1, d2⟩, d3⟩, d4⟩ := hd
      obtain ⟨xs, h1, h2, h3⟩ := h
      match xs, h1 with
      | y :: ys, h1 =>
        have hl' : cs.length = a.sz + b.sz := hl
        have hy := h3 0 f rfl
        rw [d1, Nat.sub_self, List.drop_zero, d2] at hy
        simp only [List.map_cons, uptoBulkAll] at h2
        obtain ⟨da, k1, k2, k3, k4⟩ := iha (.inl f.type) (cs.take a.sz) (uptoBulk y.1) fuel d3 (by simp; omega) ⟨y, by simpa using hy, Nat.le_refl _⟩
        obtain ⟨db, j1, j2, j3, j4⟩ := ihb (.inr (r, off + a.sz)) (cs.drop a.sz) (uptoBulkAll (ys.map (·.1))) fuel d4 (by simp; omega) ⟨ys, by simpa using h1, Nat.le_refl _, fun i g hg => by
          have := h3 (i + 1) g (by simpa using hg)
          have hoff := deep_off r (off + a.sz) d4 g (List.mem_of_getElem? hg)
          rw [List.drop_drop]
          have e : a.sz + (g.offset - (off + a.sz)) = g.offset - off := by omega
          rw [e]
          simpa using this⟩
        exact ⟨(da, db), ⟨_, _, (List.take_append_drop a.sz cs).symm, k1, j1⟩, ⟨k2, j2⟩, by simp only [Ty.mass]; omega, hl⟩
    | .inr ([], off), hd, _ => simp [deepG] at hd
    | .inl T, hd, _ => simp [deepG] at hd
  | list t ih =>
    intro x cs n fuel hd hl h
    simp only [deepG] at hd
    split at hd
    · rename_i T hT
      simp only [Bool.and_eq_true, beq_iff_eq] at hd
      obtain ⟨hu, hc⟩ := hd
      split at hu
      · rename_i e hu'
        simp only [Bool.and_eq_true, decide_eq_true_eq, beq_iff_eq] at hu
        obtain ⟨⟨d1, d2⟩, d3⟩ := hu
        obtain ⟨y, h1, h2⟩ := h.one hT (by rw [hc, hl]; rfl)
        rcases DataW.trod_slice hu' h1 with ⟨rfl, rfl⟩ | ⟨ad, len, cap, elems, rest, m, rfl, rfl, rfl, hb, hlc, hcm, hel, h3, h4, _⟩
        · refine ⟨([] : List t.D), ⟨none, 0, rfl, Nat.le_refl _, Nat.zero_le _, fun h => absurd h (by simp)⟩, ⟨by simp, fun x hx => by cases hx⟩, ?_, rfl⟩
          simpa [Ty.mass, uptoBulk] using h2
        · have hQ : ∀ (i : Nat) (z : DataW H × List MemPlace), elems[i]? = some z → ∃ d : t.D, (∃ es, Rep (fun _ => False) w t d es ∧ es.length = t.sz ∧ w.cells? 0 (ad.add (i * t.sz)) t.sz = some es) ∧ t.wf d ∧ t.mass d ≤ uptoBulk z.1 := by
            intro i z hz
            have hi : i < len := by
              have := (List.getElem?_eq_some_iff.1 hz).1
              omega
            have := h3 i hi
            rw [hz, d3] at this
            obtain ⟨es, e1, e2⟩ := Option.bind_eq_some_iff.1 this
            obtain ⟨_, e3, _⟩ := World.cells?_some e1
            obtain ⟨d, k1, k2, k3, k4⟩ := ih (.inl e) es (uptoBulk z.1) m d1 e3 ⟨z, e2, Nat.le_refl _⟩
            exact ⟨d, ⟨es, k1, k4, e1⟩, k2, k3⟩
          obtain ⟨l, k1, k2, k3, k4⟩ := open_list (fun i d => ∃ es, Rep (fun _ => False) w t d es ∧ es.length = t.sz ∧ w.cells? 0 (ad.add (i * t.sz)) t.sz = some es) elems hQ
          have hll : l.length = len := by rw [k1, hel]
          refine ⟨l, ⟨some ad, cap, by rw [hll], by rw [hll]; exact hlc, hcm, fun hpos => ⟨ad, rfl, ?_, fun h => h, fun i d hi => ?_⟩⟩, ⟨by rw [hll]; omega, k3⟩, ?_, rfl⟩
          · obtain ⟨es, _, _, e2⟩ := k2 0 l[0] (by simp [hpos])
            have := World.cells?_block e2 d2
            rwa [block_add] at this
          · obtain ⟨es, e1, e2, e3⟩ := k2 i d hi
            refine ⟨es, e1, fun j v hj => ?_⟩
            obtain ⟨_, _, e4⟩ := World.cells?_some e3
            have hjl : j < t.sz := by rw [← e2]; exact (List.getElem?_eq_some_iff.1 hj).1
            have := e4 j hjl
            rw [add_add] at this
            rw [this, hj]
          · simp only [uptoBulk] at h2
            simp only [Ty.mass]
            omega
      · cases hu
    · cases hd
end Go.FK


/- A law's call: what its arguments read as, and what the call's contract then gives. -/
namespace Go.FK
open Go.RowKit Go.ChangeShapes Go.WideShapes Go.ChangeAt
open Go.Proofs.YtnjpocbcfkfphaaDoor.Rows (uptoBulk uptoBulkAll)
variable {P : Program}
theorem okWide_arr {w : World} {r : Reach} {b0 : Nat} {T : TypeId} {v : Value} {n : Nat} {e : TypeId} (ht : P.underlying T = some (.array n e)) (h : Value.okWide P w r b0 T v) : ∃ cs, v = .agg cs ∧ cs.size = P.cellsOf T := by
  simp only [Value.okWide, ht] at h
  obtain ⟨cs, h1, h2, _⟩ := h
  exact ⟨cs, h1, h2⟩
theorem value_told {H : Type} {enc : TypeId × Value → H} {w : World} {sp : Nat → Bool} {held : Bool} {r : Reach} {b0 : Nat} {t : Ty} {T : TypeId} {v : Value} {d : DataW H} {ps : List MemPlace} (hd : deepG P t (.inl T) = true) (hok : t.ok false = true) (hv : Value.okWide P w r b0 T v)
    (h : DataW.Trod enc P w 0 sp held T v d ps) : ∃ x : t.D, RepV (fun _ => False) w t x v ∧ t.wf x ∧ t.mass x ≤ uptoBulk d := by
  obtain ⟨fuel, h⟩ := h
  have key : v.cells.toList.length = t.sz ∧ v = ofCells t v.cells.toList := by
    cases t <;> simp only [deepG, typeAt] at hd <;> try (cases hd; done)
    case int k =>
      simp only [Bool.and_eq_true] at hd
      obtain ⟨hu, _⟩ := hd
      split at hu
      · rename_i k' hu'
        obtain ⟨n, rfl⟩ := okWide_int hu' hv
        exact ⟨rfl, rfl⟩
      · cases hu
    case bool =>
      simp only [Bool.and_eq_true] at hd
      obtain ⟨hu, _⟩ := hd
      split at hu
      · rename_i hu'
        obtain ⟨n, rfl⟩ := okWide_bool hu' hv
        exact ⟨rfl, rfl⟩
      · cases hu
    case str =>
      simp only [Bool.and_eq_true] at hd
      obtain ⟨hu, _⟩ := hd
      split at hu
      · rename_i hu'
        obtain ⟨n, rfl⟩ := okWide_string hu' hv
        exact ⟨rfl, rfl⟩
      · cases hu
    case flt =>
      simp only [Bool.and_eq_true] at hd
      obtain ⟨hu, _⟩ := hd
      split at hu
      · rename_i hu'
        obtain ⟨n, rfl⟩ := okWide_float hu' hv
        exact ⟨rfl, rfl⟩
      · cases hu
    case list t =>
      simp only [Bool.and_eq_true] at hd
      obtain ⟨hu, _⟩ := hd
      split at hu
      · rename_i e hu'
        obtain ⟨a, l, c, rfl⟩ := okWide_slice hu' hv
        exact ⟨rfl, rfl⟩
      · cases hu
    case st t =>
      simp only [Bool.and_eq_true, beq_iff_eq] at hd
      obtain ⟨hu, hc⟩ := hd
      split at hu
      · rename_i fs hu'
        obtain ⟨cs, rfl, hsz⟩ := okWide_struct hu' hv
        refine ⟨?_, ?_⟩
        · show cs.toList.length = t.sz
          rw [Array.length_toList, hsz]
          exact hc
        · simp [ofCells, Ty.isSt, Value.cells]
      · rename_i q e hu'
        obtain ⟨cs, rfl, hsz⟩ := okWide_arr hu' hv
        refine ⟨?_, ?_⟩
        · show cs.toList.length = t.sz
          rw [Array.length_toList, hsz]
          exact hc
        · simp [ofCells, Ty.isSt, Value.cells]
      · cases hu
  obtain ⟨x, h1, h2, h3, _⟩ := open_rep t (.inl T) _ (uptoBulk d) fuel hd key.1 ⟨(d, ps), h, Nat.le_refl _⟩
  exact ⟨x, ⟨hok, _, h1, key.2⟩, h2, h3⟩
def wfDs : List Dyn → Prop
  | [] => True
  | d :: ds => d.1.wf d.2 ∧ wfDs ds
def massDs : List Dyn → Nat
  | [] => 0
  | d :: ds => d.1.mass d.2 + massDs ds
def deepL (P : Program) : List Ty → List TypeId → Bool
  | [], [] => true
  | t :: ts, T :: Ts => deepG P t (.inl T) && t.ok false && deepL P ts Ts
  | _, _ => false
theorem args_told {H : Type} {enc : TypeId × Value → H} {w : World} {sp : Nat → Bool} {held : Bool} {r : Reach} {b0 : Nat} : ∀ (ts : List Ty) (Ts : List TypeId) (vs : List Value) (ds : List (DataW H)) (ps : List MemPlace), deepL P ts Ts = true →
    (∀ (j : Nat) T v, Ts[j]? = some T → vs[j]? = some v → Value.okWide P w r b0 T v) → DataW.TrodAll enc P w 0 sp held Ts vs ds ps → ∃ x : TD ts, RepDs (fun _ => False) w (encT ts x) vs ∧ wfDs (encT ts x) ∧ massDs (encT ts x) ≤ uptoBulkAll ds
  | [], [], [], [], _, _, _, _ => ⟨(), trivial, trivial, Nat.zero_le _⟩
  | [t], [T], v :: vs, d :: ds, ps, hd, hv, h => by
    simp only [deepL, Bool.and_eq_true] at hd
    obtain ⟨p, q, h1, h2, _⟩ := h
    match vs, ds, h2 with
    | [], [], _ =>
      obtain ⟨x, k1, k2, k3⟩ := value_told hd.1.1 hd.1.2 (hv 0 T v rfl rfl) h1
      exact ⟨x, ⟨k1, trivial⟩, ⟨k2, trivial⟩, by simp only [massDs, encT, uptoBulkAll]; omega⟩
  | t :: u :: ts, T :: Ts, v :: vs, d :: ds, ps, hd, hv, h => by
    simp only [deepL, Bool.and_eq_true] at hd
    obtain ⟨p, q, h1, h2, _⟩ := h
    obtain ⟨x, k1, k2, k3⟩ := value_told hd.1.1 hd.1.2 (hv 0 T v rfl rfl) h1
    obtain ⟨y, j1, j2, j3⟩ := args_told (u :: ts) Ts vs ds q (by simpa [deepL] using hd.2) (fun j T' v' hT hv' => hv (j + 1) T' v' (by simpa using hT) (by simpa using hv')) h2
    exact ⟨(x, y), ⟨k1, j1⟩, ⟨k2, j2⟩, by simp only [massDs, encT, uptoBulkAll]; omega⟩
  | [], _ :: _, _, _, _, hd, _, _ => by simp [deepL] at hd
  | _ :: _, [], _, _, _, hd, _, _ => by simp [deepL] at hd
  | [], [], _ :: _, _, _, _, _, h => h.elim
  | [], [], [], _ :: _, _, _, _, h => h.elim
  | _ :: _, _ :: _, [], _, _, _, _, h => h.elim
  | _ :: _, _ :: _, _ :: _, [], _, _, _, h => h.elim
  | [_], _ :: _ :: _, _, _, _, hd, _, _ => by simp [deepL] at hd
theorem law_calls {f : FuncId} {fn : Func} {c : Code} {ps : List Ty} {F : Nat → TD ps → Option Bool} (hf : P.funcs[f]? = some fn) (hb : fn.body = some c) (hname : (fn.name == "runtime.NumGoroutine") = false)
    (hc : ∀ k, Contract P f ⟨ps, [.bool], F k⟩) {x : TD ps} (hx : ∃ k, F k x = some true) {w : World} {args : Array Value} (hgl : Gl (fun _ => False) w) (ha : RepDs (fun _ => False) w (encT ps x) args.toList) :
    Calls P f args w fun e w' => e = .returned (.bool true) ∧ Below w.heap.size w w' := by
  obtain ⟨k, hk⟩ := hx
  have hname' : ¬ fn.name = "runtime.NumGoroutine" := by simpa using hname
  have hrun : ∀ vs, (callFunc f vs).run P w = .ok (.enter f vs) w := fun vs => by simp [callFunc, hf, hname', hb]
  rcases hc k x true hk (fun _ => False) w args.toList (fun _ h => h.elim) hgl ha with ⟨_, h⟩ | ⟨v, w', h, _⟩
  · refine h.mono fun e w' he => ?_
    obtain ⟨us, rfl, h1, h2⟩ := he
    match us, h1 with
    | [u], h1 =>
      have := repV_bool h1.1
      subst this
      exact ⟨rfl, h2⟩
  · rw [hrun] at h
    simp at h
theorem trodAll_length {H : Type} {enc : TypeId × Value → H} {w : World} {b : Nat} {sp : Nat → Bool} {held : Bool} : ∀ {Ts : List TypeId} {vs : List Value} {ds : List (DataW H)} {ps : List MemPlace}, DataW.TrodAll enc P w b sp held Ts vs ds ps → ds.length = Ts.length
  | [], [], [], _, _ => rfl
  | _ :: _, _ :: _, _ :: _, _, ⟨_, _, _, h, _⟩ => by simp [trodAll_length h]
theorem post_of_below {H : Type} {enc : TypeId × Value → H} {f : Func} {s : ChangeSpec} {apart fresh handsOn again : Bool} {W W' : World} {args : Array Value} {v : Value} {ds gs : List (DataW H)} {before : List MemPlace}
    (hW : DataW.Whole enc P f.params.toList s.vars apart W args.toList ds gs before) (hb : Below W.heap.size W W')
    (hres : ∀ (b : Nat) (sp : Nat → Bool) (hd : Bool), DataW.TrodAll enc P W' b sp hd f.resultTypes.toList (v.resultList f.resultTypes.size) (s.fn H (ds ++ gs)).results [])
    (hargs : ∀ sp : Nat → Bool, (∀ p ∈ before, sp p.block = true) → DataW.TrodAll enc P W' 0 sp true f.params.toList args.toList (s.fn H (ds ++ gs)).args before)
    (hvars : ∀ sp : Nat → Bool, DataW.TrodVars enc P W' sp s.vars (s.fn H (ds ++ gs)).vars [])
    (hok : ∀ (j : Nat) (t : TypeId) (r : Value), f.resultTypes[j]? = some t → (v.resultList f.resultTypes.size)[j]? = some r → Value.okWide P W' .any 0 t r) :
    s.post enc P f apart fresh handsOn again W args v W' := by
  have hlt := fun p hp => hW.lt p hp
  have hold : ∀ p ∈ before, (fun b => decide (b < W.heap.size)) p.block = true := fun p hp => by simpa using hlt p hp
  refine ⟨ds, gs, before, [], before, [], hW, hres _ _ _, hargs _ hold, hvars _, World.keptBut_mono (fun p hp => ⟨hp, .inr (.inl hp)⟩) (hb.frame (· ∈ before)), fun _ => ?_⟩
  obtain ⟨_, _, _, _, _, hz, hn⟩ := hW
  refine ⟨hok, _, _, ([] ++ before) ++ [], ⟨[] ++ before, [], trodAll_append (hargs _ (fun _ _ => rfl)) (hres _ _ _), hvars _, rfl, ?_, ?_⟩, ?_⟩
  · intro b off hp
    have hp' : MemPlace.cell b off ∈ before := by simpa using hp
    rw [hb.frozen (hlt _ hp')]
    exact hz b off hp'
  · intro ha
    simpa using hn ha
  · intro p hp _
    simpa using hp
theorem trodAll_later {H : Type} {enc : TypeId × Value → H} (hl : laidOutB P = true) {W W' : World} (hb : Below W.heap.size W W') : ∀ (Ts : List TypeId) (vs : List Value) (ds : List (DataW H)) (ps : List MemPlace), (∀ T ∈ Ts, P.readableRec T = true ∧ T < P.types.size) →
    DataW.TrodAll enc P W 0 (fun _ => true) true Ts vs ds ps → (∀ x ∈ ps, x.block < W.heap.size) → ∀ sp : Nat → Bool, (∀ x ∈ ps, sp x.block = true) → DataW.TrodAll enc P W' 0 sp true Ts vs ds ps
  | [], [], [], _, _, h, _, _, _ => h
  | T :: Ts, v :: vs, d :: ds, _, hr, h, hlt, sp, hsp => by
    obtain ⟨p, q, h1, h2, rfl⟩ := h
    refine ⟨p, q, ?_, trodAll_later hl hb Ts vs ds q (fun U hU => hr U (by simp [hU])) h2 (fun x hx => hlt x (by simp [hx])) sp (fun x hx => hsp x (by simp [hx])), rfl⟩
    exact WideElems.Trod_stays hl (hr T (by simp)).1 (hr T (by simp)).2 h1 (fun x hx => hb.same (hlt x (by simp [hx]))) (fun x hx => hsp x (by simp [hx]))
  | [], [], _ :: _, _, _, h, _, _, _ => h.elim
  | [], _ :: _, _, _, _, h, _, _, _ => h.elim
  | _ :: _, [], _, _, _, h, _, _, _ => h.elim
  | _ :: _, _ :: _, [], _, _, h, _, _, _ => h.elim
end Go.FK
