/- Data by paths, rows of the call's own, and what a temporary's value stands for. -/
import Derived.Test.YtiacmfebhoodnaaFkC
namespace Go.FK
open Go.RowKit

theorem nthD_eq {α : Type} (d : α) : ∀ (l : List α) (n : Nat), nthD d l n = l.getD n d
  | [], _ => by simp [nthD]
  | _ :: _, 0 => by simp [nthD]
  | _ :: xs, n + 1 => by simp [nthD, nthD_eq d xs n]
theorem nthD_none {α : Type} (l : List (Option α)) (n : Nat) (x : α) (h : nthD none l n = some x) : l[n]? = some (some x) := by
  rw [nthD_eq] at h
  rw [List.getD_eq_getElem?_getD] at h
  cases hn : l[n]? with
  | none => rw [hn] at h; simp at h
  | some y => rw [hn] at h; simp at h; rw [h]
theorem setN_eq {α : Type} (v : α) : ∀ (l : List α) (n : Nat), setN v l n = l.set n v
  | [], _ => by simp [setN]
  | _ :: _, 0 => by simp [setN]
  | _ :: xs, n + 1 => by simp [setN, setN_eq v xs n]
theorem length_setN {α : Type} (v : α) (l : List α) (n : Nat) : (setN v l n).length = l.length := by rw [setN_eq]; simp
theorem nthD_setN {α : Type} (d v : α) (l : List α) (n m : Nat) : nthD d (setN v l n) m = if n = m ∧ n < l.length then v else nthD d l m := by
  rw [setN_eq, nthD_eq, nthD_eq, List.getD_eq_getElem?_getD, List.getD_eq_getElem?_getD, List.getElem?_set]
  by_cases h : n = m
  · subst h
    by_cases h2 : n < l.length <;> simp [h2]
  · simp [h]

/-! ### Fields -/
theorem fieldG_ty : ∀ (t : Ty) (x y : t.D) (j : Nat) (d : Dyn), fieldG t x j = some d → ∃ d', fieldG t y j = some d' ∧ d'.1 = d.1
  | .pair a _, x, y, 0, d, h => by simp only [fieldG, Option.some.injEq] at h ⊢; subst h; exact ⟨_, rfl, rfl⟩
  | .pair _ b, x, y, j + 1, d, h => by simp only [fieldG] at h ⊢; exact fieldG_ty b x.2 y.2 j d h
  | .unit, _, _, _, _, h => by simp [fieldG] at h
  | .int _, x, y, 0, d, h => by simp only [fieldG, Option.some.injEq] at h ⊢; subst h; exact ⟨_, rfl, rfl⟩
  | .bool, x, y, 0, d, h => by simp only [fieldG, Option.some.injEq] at h ⊢; subst h; exact ⟨_, rfl, rfl⟩
  | .str, x, y, 0, d, h => by simp only [fieldG, Option.some.injEq] at h ⊢; subst h; exact ⟨_, rfl, rfl⟩
  | .flt, x, y, 0, d, h => by simp only [fieldG, Option.some.injEq] at h ⊢; subst h; exact ⟨_, rfl, rfl⟩
  | .list _, x, y, 0, d, h => by simp only [fieldG, Option.some.injEq] at h ⊢; subst h; exact ⟨_, rfl, rfl⟩
  | .st _, x, y, 0, d, h => by simp only [fieldG, Option.some.injEq] at h ⊢; subst h; exact ⟨_, rfl, rfl⟩
  | .int _, _, _, _ + 1, _, h => by simp [fieldG] at h
  | .bool, _, _, _ + 1, _, h => by simp [fieldG] at h
  | .str, _, _, _ + 1, _, h => by simp [fieldG] at h
  | .flt, _, _, _ + 1, _, h => by simp [fieldG] at h
  | .list _, _, _, _ + 1, _, h => by simp [fieldG] at h
  | .st _, _, _, _ + 1, _, h => by simp [fieldG] at h

/-- A part of cells. -/
def seg (cs : List Value) (o n : Nat) : List Value := (cs.drop o).take n

theorem seg_all (cs : List Value) : seg cs 0 cs.length = cs := by simp [seg]
theorem seg_seg (cs : List Value) (o n o' n' : Nat) (h : o' + n' ≤ n) : seg (seg cs o n) o' n' = seg cs (o + o') n' := by
  simp only [seg, List.drop_take, List.drop_drop, List.take_take]
  rw [Nat.min_eq_left (by omega)]
theorem seg_getElem (cs : List Value) (o n j : Nat) : (seg cs o n)[j]? = if j < n then cs[o + j]? else none := by
  simp only [seg, List.getElem?_take, List.getElem?_drop]

variable {M : Nat → Prop} {w : World}

theorem one_field {t : Ty} (ho : t.ok true = true) (hp : ∀ a b, t ≠ .pair a b) (hu : t ≠ .unit) : t.ok false = true := by
  cases t <;> simp_all [Ty.ok]

theorem Rep.field : ∀ (t : Ty) (x : t.D) (cs : List Value) (j : Nat) (d : Dyn), t.ok true = true → Rep M w t x cs → fieldG t x j = some d →
    d.1.ok false = true ∧ offF t j + d.1.sz ≤ t.sz ∧ Rep M w d.1 d.2 (seg cs (offF t j) d.1.sz)
  | .pair a b, x, cs, 0, d, ho, h, hf => by
    simp only [fieldG, Option.some.injEq] at hf
    subst hf
    obtain ⟨c1, c2, rfl, h1, h2⟩ := h
    simp only [Ty.ok, Bool.and_eq_true] at ho
    have hl := Rep.len a x.1 c1 h1
    refine ⟨ho.1.2, by simp [offF, Ty.sz], ?_⟩
    have : seg (c1 ++ c2) (offF (a.pair b) 0) a.sz = c1 := by simp [seg, offF, ← hl]
    rw [this]
    exact h1
  | .pair a b, x, cs, j + 1, d, ho, h, hf => by
    simp only [fieldG] at hf
    obtain ⟨c1, c2, rfl, h1, h2⟩ := h
    simp only [Ty.ok, Bool.and_eq_true] at ho
    have hl := Rep.len a x.1 c1 h1
    obtain ⟨i1, i2, i3⟩ := Rep.field b x.2 c2 j d ho.2 h2 hf
    refine ⟨i1, by simp only [offF, Ty.sz]; omega, ?_⟩
    have : seg (c1 ++ c2) (offF (a.pair b) (j + 1)) d.1.sz = seg c2 (offF b j) d.1.sz := by
      simp only [seg, offF, ← hl, List.drop_length_add_append]
    rw [this]
    exact i3
  | .unit, _, _, _, _, _, _, hf => by simp [fieldG] at hf
  | .int k, x, cs, 0, d, ho, h, hf => by
    simp only [fieldG, Option.some.injEq] at hf; subst hf
    have hl := Rep.len (.int k) x cs h
    exact ⟨rfl, by simp [offF, Ty.sz], by show Rep M w (.int k) x (seg cs 0 1); rw [show (1 : Nat) = cs.length from hl.symm, seg_all]; exact h⟩
  | .bool, x, cs, 0, d, ho, h, hf => by
    simp only [fieldG, Option.some.injEq] at hf; subst hf
    have hl := Rep.len .bool x cs h
    exact ⟨rfl, by simp [offF, Ty.sz], by show Rep M w .bool x (seg cs 0 1); rw [show (1 : Nat) = cs.length from hl.symm, seg_all]; exact h⟩
  | .str, x, cs, 0, d, ho, h, hf => by
    simp only [fieldG, Option.some.injEq] at hf; subst hf
    have hl := Rep.len .str x cs h
    exact ⟨rfl, by simp [offF, Ty.sz], by show Rep M w .str x (seg cs 0 1); rw [show (1 : Nat) = cs.length from hl.symm, seg_all]; exact h⟩
  | .flt, x, cs, 0, d, ho, h, hf => by
    simp only [fieldG, Option.some.injEq] at hf; subst hf
    have hl := Rep.len .flt x cs h
    exact ⟨rfl, by simp [offF, Ty.sz], by show Rep M w .flt x (seg cs 0 1); rw [show (1 : Nat) = cs.length from hl.symm, seg_all]; exact h⟩
  | .list t, x, cs, 0, d, ho, h, hf => by
    simp only [fieldG, Option.some.injEq] at hf; subst hf
    have hl := Rep.len (.list t) x cs h
    exact ⟨by simpa [Ty.ok] using ho, by simp [offF, Ty.sz], by show Rep M w (.list t) x (seg cs 0 1); rw [show (1 : Nat) = cs.length from hl.symm, seg_all]; exact h⟩
  | .st t, x, cs, 0, d, ho, h, hf => by
    simp only [fieldG, Option.some.injEq] at hf; subst hf
    have hl := Rep.len (.st t) x cs h
    exact ⟨by simpa [Ty.ok] using ho, by simp [offF], by show Rep M w (.st t) x (seg cs 0 (Ty.st t).sz); rw [← hl, seg_all]; exact h⟩
  | .int _, _, _, _ + 1, _, _, _, hf => by simp [fieldG] at hf
  | .bool, _, _, _ + 1, _, _, _, hf => by simp [fieldG] at hf
  | .str, _, _, _ + 1, _, _, _, hf => by simp [fieldG] at hf
  | .flt, _, _, _ + 1, _, _, _, hf => by simp [fieldG] at hf
  | .list _, _, _, _ + 1, _, _, _, hf => by simp [fieldG] at hf
  | .st _, _, _, _ + 1, _, _, _, hf => by simp [fieldG] at hf

/-! ### Splices -/
theorem splice_len (L : List Value) (o : Nat) (cs : List Value) (h : o + cs.length ≤ L.length) : (splice L o cs).length = L.length := by
  simp [splice]; omega
theorem splice_get (L : List Value) (o : Nat) (cs : List Value) (h : o + cs.length ≤ L.length) (j : Nat) :
    (splice L o cs)[j]? = if j < o then L[j]? else if j < o + cs.length then cs[j - o]? else L[j]? := by
  simp only [splice]
  by_cases h1 : j < o
  · rw [if_pos h1, List.getElem?_append_left (by simp; omega), List.getElem?_take, if_pos h1]
  · rw [if_neg h1, List.getElem?_append_right (by simp; omega)]
    have e : j - (L.take o).length = j - o := by simp; omega
    rw [e]
    by_cases h2 : j < o + cs.length
    · rw [if_pos h2, List.getElem?_append_left (by omega)]
    · rw [if_neg h2, List.getElem?_append_right (by omega), List.getElem?_drop]
      congr 1
      omega
theorem splice_whole (L cs : List Value) (h : cs.length = L.length) : splice L 0 cs = cs := by
  simp [splice, h]
theorem splice_left (A B cs : List Value) (h : cs.length = A.length) : splice (A ++ B) 0 cs = cs ++ B := by
  simp [splice, h]
theorem splice_right (A B : List Value) (o : Nat) (cs : List Value) : splice (A ++ B) (A.length + o) cs = A ++ splice B o cs := by
  simp only [splice, List.take_length_add_append, Nat.add_assoc, List.drop_length_add_append, List.append_assoc]
theorem splice_splice (L : List Value) (o n o' : Nat) (vs : List Value) (h1 : o + n ≤ L.length) (h2 : o' + vs.length ≤ n) :
    splice L o (splice (seg L o n) o' vs) = splice L (o + o') vs := by
  have hs : (seg L o n).length = n := by simp [seg]; omega
  have hl := splice_len (seg L o n) o' vs (by omega)
  apply List.ext_getElem?
  intro j
  rw [splice_get _ _ _ (by omega), splice_get _ _ _ (by omega), splice_get _ _ _ (by omega)]
  simp only [hl, hs, seg_getElem]
  by_cases c1 : j < o
  · simp [c1, show j < o + o' by omega]
  · by_cases c2 : j < o + n
    · by_cases c3 : j < o + o'
      · simp [c1, c2, c3, show j - o < o' by omega, show j - o < n by omega, show o + (j - o) = j by omega]
      · by_cases c4 : j < o + o' + vs.length
        · simp [c1, c2, c3, c4, show ¬ (j - o < o') by omega, show j - o < o' + vs.length by omega, show j - o - o' = j - (o + o') by omega]
        · simp [c1, c2, c3, c4, show ¬ (j - o < o') by omega, show ¬ (j - o < o' + vs.length) by omega, show j - o < n by omega, show o + (j - o) = j by omega]
    · simp [c1, c2, show ¬ (j < o + o') by omega, show ¬ (j < o + o' + vs.length) by omega]

theorem castD_eq {t t' : Ty} {x : t.D} {y : t'.D} (h : castD t t' x = some y) : ∃ e : t = t', e ▸ x = y := by
  unfold castD at h
  split at h
  · rename_i e
    exact ⟨e, by simpa using h⟩
  · cases h

theorem Rep.setF : ∀ (t : Ty) (x : t.D) (cs : List Value) (j : Nat) (g : (u : Ty) → u.D → Option u.D) (y : t.D), t.ok true = true → Rep M w t x cs → FK.setF t x j g = some y →
    ∃ d, fieldG t x j = some d ∧ ∃ z : d.1.D, g d.1 d.2 = some z ∧ ∀ cs', Rep M w d.1 z cs' → Rep M w t y (splice cs (offF t j) cs')
  | .pair a b, x, cs, 0, g, y, ho, h, hf => by
    obtain ⟨c1, c2, rfl, h1, h2⟩ := h
    simp only [FK.setF] at hf
    split at hf
    · rename_i z hz
      simp only [Option.some.injEq] at hf
      subst hf
      refine ⟨_, rfl, z, hz, fun cs' hc => ?_⟩
      have hl := Rep.len a x.1 c1 h1
      have hl' := Rep.len a z cs' hc
      rw [show offF (a.pair b) 0 = 0 from rfl, splice_left _ _ _ (by omega)]
      exact ⟨_, _, rfl, hc, h2⟩
    · cases hf
  | .pair a b, x, cs, j + 1, g, y, ho, h, hf => by
    obtain ⟨c1, c2, rfl, h1, h2⟩ := h
    simp only [FK.setF] at hf
    split at hf
    · rename_i z hz
      simp only [Option.some.injEq] at hf
      subst hf
      simp only [Ty.ok, Bool.and_eq_true] at ho
      obtain ⟨d, hd, z', hz', hr⟩ := Rep.setF b x.2 c2 j g z ho.2 h2 hz
      refine ⟨d, by simpa [fieldG] using hd, z', hz', fun cs' hc => ?_⟩
      have hl := Rep.len a x.1 c1 h1
      rw [show offF (a.pair b) (j + 1) = a.sz + offF b j from rfl, ← hl, splice_right]
      exact ⟨_, _, rfl, h1, hr cs' hc⟩
    · cases hf
  | .unit, _, _, _, _, _, _, _, hf => by simp [FK.setF] at hf
  | .int k, x, cs, 0, g, y, ho, h, hf => ⟨_, rfl, y, hf, fun cs' hc => by
      rw [show offF (.int k) 0 = 0 from rfl, splice_whole _ _ (by rw [Rep.len _ _ _ hc, Rep.len _ _ _ h])]; exact hc⟩
  | .bool, x, cs, 0, g, y, ho, h, hf => ⟨_, rfl, y, hf, fun cs' hc => by
      rw [show offF .bool 0 = 0 from rfl, splice_whole _ _ (by rw [Rep.len _ _ _ hc, Rep.len _ _ _ h])]; exact hc⟩
  | .str, x, cs, 0, g, y, ho, h, hf => ⟨_, rfl, y, hf, fun cs' hc => by
      rw [show offF .str 0 = 0 from rfl, splice_whole _ _ (by rw [Rep.len _ _ _ hc, Rep.len _ _ _ h])]; exact hc⟩
  | .flt, x, cs, 0, g, y, ho, h, hf => ⟨_, rfl, y, hf, fun cs' hc => by
      rw [show offF .flt 0 = 0 from rfl, splice_whole _ _ (by rw [Rep.len _ _ _ hc, Rep.len _ _ _ h])]; exact hc⟩
  | .list t, x, cs, 0, g, y, ho, h, hf => ⟨_, rfl, y, hf, fun cs' hc => by
      rw [show offF (.list t) 0 = 0 from rfl, splice_whole _ _ (by rw [Rep.len _ _ _ hc, Rep.len _ _ _ h])]; exact hc⟩
  | .st t, x, cs, 0, g, y, ho, h, hf => ⟨_, rfl, y, hf, fun cs' hc => by
      rw [show offF (.st t) 0 = 0 from rfl, splice_whole _ _ (by rw [Rep.len _ _ _ hc, Rep.len _ _ _ h])]; exact hc⟩
  | .int _, _, _, _ + 1, _, _, _, _, hf => by simp [FK.setF] at hf
  | .bool, _, _, _ + 1, _, _, _, _, hf => by simp [FK.setF] at hf
  | .str, _, _, _ + 1, _, _, _, _, hf => by simp [FK.setF] at hf
  | .flt, _, _, _ + 1, _, _, _, _, hf => by simp [FK.setF] at hf
  | .list _, _, _, _ + 1, _, _, _, _, hf => by simp [FK.setF] at hf
  | .st _, _, _, _ + 1, _, _, _, _, hf => by simp [FK.setF] at hf

theorem offP_cons {t : Ty} {x : t.D} {j : Nat} {p : List Nat} {d : Dyn} (h : fieldG t x j = some d) : offP (j :: p) (.st t) = offF t j + offP p d.1 := by
  obtain ⟨d', h1, h2⟩ := fieldG_ty t x t.zero j d h
  simp only [offP, h1, h2]

theorem Rep.getP : ∀ (p : List Nat) (t : Ty) (x : t.D) (cs : List Value) (d : Dyn), t.ok false = true → Rep M w t x cs → FK.getP p t x = some d →
    d.1.ok false = true ∧ offP p t + d.1.sz ≤ t.sz ∧ Rep M w d.1 d.2 (seg cs (offP p t) d.1.sz)
  | [], t, x, cs, d, ho, h, hg => by
    simp only [FK.getP, Option.some.injEq] at hg
    subst hg
    refine ⟨ho, by simp [offP], ?_⟩
    have hl := Rep.len t x cs h
    rw [show offP [] t = 0 from rfl, ← hl, seg_all]
    exact h
  | j :: p, .st t, x, cs, d, ho, h, hg => by
    simp only [FK.getP] at hg
    split at hg
    · rename_i f hf
      have ho' : t.ok true = true := by simpa [Ty.ok] using ho
      obtain ⟨i1, i2, i3⟩ := Rep.field t x cs j f ho' h hf
      obtain ⟨k1, k2, k3⟩ := Rep.getP p f.1 f.2 _ d i1 i3 hg
      rw [offP_cons hf]
      refine ⟨k1, by simp only [Ty.sz]; omega, ?_⟩
      rwa [seg_seg _ _ _ _ _ k2] at k3
    · cases hg
  | _ :: _, .int _, _, _, _, _, _, hg => by simp [FK.getP] at hg
  | _ :: _, .bool, _, _, _, _, _, hg => by simp [FK.getP] at hg
  | _ :: _, .str, _, _, _, _, _, hg => by simp [FK.getP] at hg
  | _ :: _, .flt, _, _, _, _, _, hg => by simp [FK.getP] at hg
  | _ :: _, .list _, _, _, _, _, _, hg => by simp [FK.getP] at hg
  | _ :: _, .unit, _, _, _, _, _, hg => by simp [FK.getP] at hg
  | _ :: _, .pair _ _, _, _, _, _, _, hg => by simp [FK.getP] at hg

theorem Rep.setP : ∀ (p : List Nat) (d : Dyn) (t : Ty) (x : t.D) (cs : List Value) (y : t.D), t.ok false = true → Rep M w t x cs → FK.setP p d t x = some y →
    offP p t + d.1.sz ≤ t.sz ∧ ∀ vs, Rep M w d.1 d.2 vs → Rep M w t y (splice cs (offP p t) vs)
  | [], d, t, x, cs, y, ho, h, hg => by
    simp only [FK.setP] at hg
    obtain ⟨e, rfl⟩ := castD_eq hg
    obtain ⟨dt, dx⟩ := d
    simp only at e
    subst e
    refine ⟨by simp [offP], fun vs hv => ?_⟩
    rw [show offP [] dt = 0 from rfl, splice_whole _ _ (by rw [Rep.len _ _ _ hv, Rep.len _ _ _ h])]
    exact hv
  | j :: p, d, .st t, x, cs, y, ho, h, hg => by
    simp only [FK.setP] at hg
    have ho' : t.ok true = true := by simpa [Ty.ok] using ho
    obtain ⟨f, hf, z, hz, hr⟩ := Rep.setF t x cs j _ y ho' h hg
    obtain ⟨i1, i2, i3⟩ := Rep.field t x cs j f ho' h hf
    obtain ⟨k1, k2⟩ := Rep.setP p d f.1 f.2 _ z i1 i3 hz
    rw [offP_cons hf]
    refine ⟨by simp only [Ty.sz]; omega, fun vs hv => ?_⟩
    have hl := Rep.len t x cs h
    have := hr _ (k2 vs hv)
    rwa [splice_splice _ _ _ _ _ (by omega) (by rw [Rep.len _ _ _ hv]; exact k1)] at this
  | _ :: _, _, .int _, _, _, _, _, _, hg => by simp [FK.setP] at hg
  | _ :: _, _, .bool, _, _, _, _, _, hg => by simp [FK.setP] at hg
  | _ :: _, _, .str, _, _, _, _, _, hg => by simp [FK.setP] at hg
  | _ :: _, _, .flt, _, _, _, _, _, hg => by simp [FK.setP] at hg
  | _ :: _, _, .list _, _, _, _, _, _, hg => by simp [FK.setP] at hg
  | _ :: _, _, .unit, _, _, _, _, _, hg => by simp [FK.setP] at hg
  | _ :: _, _, .pair _ _, _, _, _, _, _, hg => by simp [FK.setP] at hg

/-! ### Rows -/
def RepRow (M : Nat → Prop) (w : World) (t : Ty) (l : List t.D) (xs : List Value) : Prop :=
  xs.length = l.length * t.sz ∧ ∀ i x, l[i]? = some x → Rep M w t x (seg xs (i * t.sz) t.sz)

theorem RepRow.nil (M : Nat → Prop) (w : World) (t : Ty) : RepRow M w t [] [] := ⟨by simp, fun i x h => by simp at h⟩

theorem RepRow.next {M' : Nat → Prop} {w' : World} (hA : Agree M w w') (hM : ∀ b, b < w.heap.size → M' b → M b) {t : Ty} {l : List t.D} {xs : List Value} (h : RepRow M w t l xs) : RepRow M' w' t l xs :=
  ⟨h.1, fun i x hi => Rep.next hA hM t x _ (h.2 i x hi)⟩

theorem mul_le (i n s : Nat) (h : i < n) : i * s + s ≤ n * s := by
  have : (i + 1) * s ≤ n * s := Nat.mul_le_mul_right s h
  rwa [Nat.add_mul, Nat.one_mul] at this

theorem RepRow.one {t : Ty} {x : t.D} {cs : List Value} (h : Rep M w t x cs) : RepRow M w t [x] cs := by
  have hl := Rep.len t x cs h
  refine ⟨by simp [hl], fun i y hi => ?_⟩
  cases i with
  | zero =>
    simp at hi
    subst hi
    rw [Nat.zero_mul, ← hl, seg_all]
    exact h
  | succ i => simp at hi

theorem RepRow.append {t : Ty} {l m : List t.D} {xs ys : List Value} (h : RepRow M w t l xs) (k : RepRow M w t m ys) : RepRow M w t (l ++ m) (xs ++ ys) := by
  refine ⟨by simp [h.1, k.1, Nat.add_mul], fun i x hi => ?_⟩
  by_cases hlt : i < l.length
  · rw [List.getElem?_append_left hlt] at hi
    have hb := mul_le i l.length t.sz hlt
    have : seg (xs ++ ys) (i * t.sz) t.sz = seg xs (i * t.sz) t.sz := by
      have h1 := h.1
      simp only [seg]
      rw [List.drop_append_of_le_length (by omega), List.take_append_of_le_length (by simp; omega)]
    rw [this]
    exact h.2 i x hi
  · rw [List.getElem?_append_right (by omega)] at hi
    have : seg (xs ++ ys) (i * t.sz) t.sz = seg ys ((i - l.length) * t.sz) t.sz := by
      have e : i * t.sz = xs.length + (i - l.length) * t.sz := by rw [h.1, ← Nat.add_mul]; congr 1; omega
      simp only [seg]
      rw [e, List.drop_length_add_append]
    rw [this]
    exact k.2 _ x hi

theorem RepRow.set {t : Ty} {l : List t.D} {xs : List Value} (h : RepRow M w t l xs) {i : Nat} (hi : i < l.length) {y : t.D} {o : Nat} {vs : List Value} (ho : o + vs.length ≤ t.sz)
    (hy : Rep M w t y (splice (seg xs (i * t.sz) t.sz) o vs)) : RepRow M w t (l.set i y) (splice xs (i * t.sz + o) vs) := by
  have hb := mul_le i l.length t.sz hi
  have h1 := h.1
  refine ⟨by rw [splice_len _ _ _ (by omega)]; simp [h.1], fun j x hj => ?_⟩
  rw [List.getElem?_set] at hj
  have hsl : (seg xs (i * t.sz) t.sz).length = t.sz := by simp [seg]; omega
  by_cases e : i = j
  · subst e
    simp [hi] at hj
    subst hj
    have : seg (splice xs (i * t.sz + o) vs) (i * t.sz) t.sz = splice (seg xs (i * t.sz) t.sz) o vs := by
      apply List.ext_getElem?
      intro q
      rw [seg_getElem, splice_get _ _ _ (by omega), splice_get _ _ _ (by omega), seg_getElem]
      by_cases c1 : q < t.sz
      · by_cases c2 : q < o
        · simp [c1, c2]
        · by_cases c3 : q < o + vs.length
          · simp [c1, c2, c3, show i * t.sz + q < i * t.sz + o + vs.length by omega, show i * t.sz + q - (i * t.sz + o) = q - o by omega]
          · simp [c1, c2, c3, show ¬ (i * t.sz + q < i * t.sz + o + vs.length) by omega]
      · simp [c1, show ¬ q < o by omega, show ¬ q < o + vs.length by omega]
    rw [this]
    exact hy
  · simp [e] at hj
    have hjl : j < l.length := by
      rcases Nat.lt_or_ge j l.length with h' | h'
      · exact h'
      · rw [List.getElem?_eq_none h'] at hj; cases hj
    have : seg (splice xs (i * t.sz + o) vs) (j * t.sz) t.sz = seg xs (j * t.sz) t.sz := by
      apply List.ext_getElem?
      intro q
      rw [seg_getElem, seg_getElem, splice_get _ _ _ (by omega)]
      by_cases c1 : q < t.sz
      · rcases Nat.lt_or_ge i j with hij | hij
        · have := mul_le i j t.sz hij
          simp [c1, show ¬ (j * t.sz + q < i * t.sz + o) by omega, show ¬ (j * t.sz + q < i * t.sz + o + vs.length) by omega]
        · have := mul_le j i t.sz (by omega)
          simp [c1, show j * t.sz + q < i * t.sz + o by omega]
      · simp [c1]
    rw [this]
    exact h.2 j x hj

theorem RepRow.replicate (M : Nat → Prop) (w : World) (t : Ty) (n : Nat) : ∀ xs : List Value, xs.length = n * t.sz → (∀ i j, i < n → j < t.sz → xs[i * t.sz + j]? = t.zcells[j]?) → RepRow M w t (List.replicate n t.zero) xs := by
  intro xs hx h
  refine ⟨by simp [hx], fun i x hi => ?_⟩
  have hin : i < n := by
    rcases Nat.lt_or_ge i n with h' | h'
    · exact h'
    · rw [List.getElem?_eq_none (by simpa using h')] at hi; cases hi
  have : x = t.zero := by
    rw [List.getElem?_replicate, if_pos hin] at hi
    simpa using hi.symm
  subst this
  have hz := Rep.zcells M w t
  have hzl := Rep.len _ _ _ hz
  have : seg xs (i * t.sz) t.sz = t.zcells := by
    apply List.ext_getElem?
    intro q
    rw [seg_getElem]
    by_cases c : q < t.sz
    · rw [if_pos c, h i q hin c]
    · rw [if_neg c, List.getElem?_eq_none (by omega)]
  rw [this]
  exact hz

/-- A list that is read: its cells as one row. -/
theorem Rep.row {t : Ty} {l : List t.D} {cs : List Value} (hs : 0 < t.sz) (h : Rep M w (.list t) l cs) :
    ∃ A c xs, cs = [.slice A l.length c] ∧ RepRow M w t l xs ∧ ∀ j v, xs[j]? = some v → ∃ a, A = some a ∧ w.cell? (a.add j) = some v := by
  obtain ⟨A, c, rfl, _, _, hel⟩ := h
  by_cases hn : 0 < l.length
  · obtain ⟨a, rfl, _, _, hel⟩ := hel hn
    have key : ∀ i x, l[i]? = some x → Rep M w t x (seg ((List.range (l.length * t.sz)).map fun j => (w.cell? (a.add j)).getD (.tuple #[])) (i * t.sz) t.sz) ∧ ∀ q, q < t.sz → ∃ v, w.cell? (a.add (i * t.sz + q)) = some v := by
      intro i x hi
      have hil : i < l.length := by
        rcases Nat.lt_or_ge i l.length with h' | h'
        · exact h'
        · rw [List.getElem?_eq_none h'] at hi; cases hi
      obtain ⟨es, h1, h2⟩ := hel i x hi
      have hl := Rep.len t x es h1
      have hb := mul_le i l.length t.sz hil
      have : seg ((List.range (l.length * t.sz)).map fun j => (w.cell? (a.add j)).getD (.tuple #[])) (i * t.sz) t.sz = es := by
        apply List.ext_getElem?
        intro q
        rw [seg_getElem]
        by_cases hq : q < t.sz
        · rw [if_pos hq, List.getElem?_map, List.getElem?_range (by omega)]
          have hq' : q < es.length := by omega
          have := h2 q es[q] (List.getElem?_eq_getElem hq')
          simp [this, List.getElem?_eq_getElem hq']
        · rw [if_neg hq, List.getElem?_eq_none (by omega)]
      rw [this]
      refine ⟨h1, fun q hq => ?_⟩
      have hq' : q < es.length := by omega
      exact ⟨_, h2 q es[q] (List.getElem?_eq_getElem hq')⟩
    refine ⟨some a, c, _, rfl, ⟨by simp, fun i x hi => (key i x hi).1⟩, fun j v hj => ⟨a, rfl, ?_⟩⟩
    have hjl : j < l.length * t.sz := by
      rcases Nat.lt_or_ge j (l.length * t.sz) with h' | h'
      · exact h'
      · rw [List.getElem?_eq_none (by simpa using h')] at hj; cases hj
    have hd : j / t.sz < l.length := (Nat.div_lt_iff_lt_mul hs).2 hjl
    obtain ⟨v', hv'⟩ := (key (j / t.sz) _ (List.getElem?_eq_getElem hd)).2 (j % t.sz) (Nat.mod_lt _ hs)
    have e : j / t.sz * t.sz + j % t.sz = j := by rw [Nat.mul_comm]; exact Nat.div_add_mod j t.sz
    rw [e] at hv'
    rw [List.getElem?_map, List.getElem?_range hjl] at hj
    simp [hv'] at hj
    rw [hv', hj]
  · have : l = [] := List.eq_nil_of_length_eq_zero (by omega)
    subst this
    exact ⟨A, c, [], rfl, RepRow.nil M w t, fun j v h => by simp at h⟩

/-- An own row is a list that can be read. -/
theorem RepRow.list {M0 : Nat → Prop} {b0 : Nat} {e : TypeId} {t : Ty} {l : List t.D} {v : Value} {xs : List Value} (ho : w.ownsRow b0 e t.sz v l.length xs) (h : RepRow M0 w t l xs)
    (hM : ∀ b, v.ownBlock = some b → ¬ M0 b) : Rep M0 w (.list t) l [v] := by
  rcases ho.2 with ⟨rfl, hn⟩ | ⟨g, cap, cur, rfl, hb, hg, hc, hm, hsz, hcur⟩
  · have : l = [] := List.eq_nil_of_length_eq_zero hn
    subst this
    exact ⟨none, 0, rfl, Nat.le_refl _, Nat.zero_le _, fun h => absurd h (by simp)⟩
  · refine ⟨some ⟨g, 0, none⟩, cap, rfl, hc, hm, fun _ => ⟨_, rfl, (Array.getElem?_eq_some_iff.1 hg).1, hM g rfl, fun i x hi => ⟨_, h.2 i x hi, fun j u hj => ?_⟩⟩⟩
    rw [seg_getElem] at hj
    split at hj
    · exact ho.cells (g := g) rfl _ _ hj
    · cases hj

end Go.FK
