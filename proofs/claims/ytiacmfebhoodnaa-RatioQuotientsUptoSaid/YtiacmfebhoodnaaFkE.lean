/- What a temporary's value stands for; the objects of a call; types by the program's tables. -/
import Derived.Test.YtiacmfebhoodnaaFkD
import Derived.Orders
import Derived.LoopN
import Derived.Laws.Cells
import Derived.Laws.Slices
import Derived.Laws.Small
import Derived.Laws.Strings
import Derived.Laws.Build
import Derived.Laws.Closers25
namespace Go.FK
open Go.RowKit

/-! ### Types by the program's tables -/
def aggB (P : Program) (T : TypeId) : Bool := match P.underlying T with
  | some (.struct _) | some (.array _ _) => true
  | _ => false

def FieldOk (P : Program) (f : Field) (t : Ty) (off : Nat) : Prop :=
  f.offset = off ∧ (P.underlying f.type).isSome = true ∧ aggB P f.type = t.isSt ∧ ∃ i, P.info? f.type = some i ∧ i.size = t.sz

def FieldsOk (P : Program) : Ty → List Field → Nat → Prop
  | .unit, fs, _ => fs = []
  | .pair a b, fs, off => ∃ f r, fs = f :: r ∧ FieldOk P f a off ∧ FieldsOk P b r (off + a.sz)
  | t, fs, off => ∃ f, fs = [f] ∧ FieldOk P f t off

def ElemOk (P : Program) (T : TypeId) (t : Ty) (eb : Nat) : Prop :=
  ∃ i, P.info? T = some i ∧ i.size = t.sz ∧ i.bytes = eb ∧ ∃ z, i.zero = some z ∧ z.cells.toList = t.zcells

def Shape (P : Program) (T : TypeId) (ti : TI) : Prop :=
  match ti.t with
  | .int k => P.underlying T = some (.int k)
  | .bool => P.underlying T = some .bool
  | .str => P.underlying T = some .string
  | .flt => P.underlying T = some (.float .f64)
  | .list t => P.underlying T = some (.slice ti.el) ∧ ElemOk P ti.el t ti.eb
  | .st t => ∃ fs, P.underlying T = some (.struct fs) ∧ FieldsOk P t fs.toList 0
  | _ => False

def TyOk (P : Program) (T : TypeId) (ti : TI) : Prop :=
  ti.t.ok false = true ∧ (∃ i, P.info? T = some i ∧ i.size = ti.t.sz ∧ ∃ z, i.zero = some z ∧ z.cells.toList = ti.t.zcells) ∧ Shape P T ti

/-! the same, to be computed -/
def fieldB (P : Program) (f : Field) (t : Ty) (off : Nat) : Bool :=
  f.offset == off && (P.underlying f.type).isSome && aggB P f.type == t.isSt && (match P.info? f.type with
    | some i => i.size == t.sz
    | none => false)
def fieldsB (P : Program) : Ty → List Field → Nat → Bool
  | .unit, fs, _ => fs.isEmpty
  | .pair a b, f :: r, off => fieldB P f a off && fieldsB P b r (off + a.sz)
  | .pair _ _, [], _ => false
  | t, [f], off => fieldB P f t off
  | _, _, _ => false
def zB : List Value → List Value → Bool
  | [], [] => true
  | .int k a :: x, .int k' b :: y => k == k' && a == b && zB x y
  | .bool a :: x, .bool b :: y => a == b && zB x y
  | .string a :: x, .string b :: y => a.data.isEmpty && b.data.isEmpty && zB x y
  | .float .f64 a :: x, .float .f64 b :: y => a == b && zB x y
  | .slice none 0 0 :: x, .slice none 0 0 :: y => zB x y
  | _, _ => false
def elemB (P : Program) (T : TypeId) (t : Ty) (eb : Nat) : Bool := match P.info? T with
  | some i => i.size == t.sz && i.bytes == eb && (match i.zero with
    | some z => zB z.cells.toList t.zcells
    | none => false)
  | none => false
def shapeB (P : Program) (T : TypeId) (ti : TI) : Bool :=
  match ti.t, P.underlying T with
  | .int k, some (.int k') => k == k'
  | .bool, some .bool => true
  | .str, some .string => true
  | .flt, some (.float .f64) => true
  | .list t, some (.slice el) => el == ti.el && elemB P ti.el t ti.eb
  | .st t, some (.struct fs) => fieldsB P t fs.toList 0
  | _, _ => false
def tyB (P : Program) (T : TypeId) (ti : TI) : Bool :=
  ti.t.ok false && (match P.info? T with
    | some i => i.size == ti.t.sz && (match i.zero with
      | some z => zB z.cells.toList ti.t.zcells
      | none => false)
    | none => false) && shapeB P T ti

theorem fieldB_ok {P : Program} {f : Field} {t : Ty} {off : Nat} (h : fieldB P f t off = true) : FieldOk P f t off := by
  unfold fieldB at h
  simp only [Bool.and_eq_true, beq_iff_eq] at h
  obtain ⟨⟨⟨h1, h2⟩, h3⟩, h4⟩ := h
  refine ⟨h1, h2, h3, ?_⟩
  split at h4
  · rename_i i hi
    exact ⟨i, hi, by simpa using h4⟩
  · cases h4
theorem fieldsB_ok {P : Program} : ∀ (t : Ty) (fs : List Field) (off : Nat), fieldsB P t fs off = true → FieldsOk P t fs off
  | .unit, fs, _, h => by simpa [fieldsB, FieldsOk] using h
  | .pair a b, f :: r, off, h => by
    simp only [fieldsB, Bool.and_eq_true] at h
    exact ⟨f, r, rfl, fieldB_ok h.1, fieldsB_ok b r _ h.2⟩
  | .pair _ _, [], _, h => by simp [fieldsB] at h
  | .int _, [f], off, h => ⟨f, rfl, fieldB_ok h⟩
  | .bool, [f], off, h => ⟨f, rfl, fieldB_ok h⟩
  | .str, [f], off, h => ⟨f, rfl, fieldB_ok h⟩
  | .flt, [f], off, h => ⟨f, rfl, fieldB_ok h⟩
  | .list _, [f], off, h => ⟨f, rfl, fieldB_ok h⟩
  | .st _, [f], off, h => ⟨f, rfl, fieldB_ok h⟩
  | .int _, [], _, h => by simp [fieldsB] at h
  | .bool, [], _, h => by simp [fieldsB] at h
  | .str, [], _, h => by simp [fieldsB] at h
  | .flt, [], _, h => by simp [fieldsB] at h
  | .list _, [], _, h => by simp [fieldsB] at h
  | .st _, [], _, h => by simp [fieldsB] at h
  | .int _, _ :: _ :: _, _, h => by simp [fieldsB] at h
  | .bool, _ :: _ :: _, _, h => by simp [fieldsB] at h
  | .str, _ :: _ :: _, _, h => by simp [fieldsB] at h
  | .flt, _ :: _ :: _, _, h => by simp [fieldsB] at h
  | .list _, _ :: _ :: _, _, h => by simp [fieldsB] at h
  | .st _, _ :: _ :: _, _, h => by simp [fieldsB] at h
theorem zB_ok : ∀ (a b : List Value), zB a b = true → a = b := by
  intro a b
  fun_induction zB a b with
  | case1 => intro _; rfl
  | case2 k a x k' b y ih =>
    intro h
    simp only [Bool.and_eq_true, beq_iff_eq] at h
    obtain ⟨⟨rfl, rfl⟩, h⟩ := h
    rw [ih h]
  | case3 a x b y ih =>
    intro h
    simp only [Bool.and_eq_true, beq_iff_eq] at h
    obtain ⟨rfl, h⟩ := h
    rw [ih h]
  | case4 a x b y ih =>
    intro h
    simp only [Bool.and_eq_true, Array.isEmpty_iff] at h
    obtain ⟨⟨h1, h2⟩, h⟩ := h
    have : a = b := by cases a; cases b; simp_all
    rw [ih h, this]
  | case5 a x b y ih =>
    intro h
    simp only [Bool.and_eq_true, beq_iff_eq] at h
    obtain ⟨rfl, h⟩ := h
    rw [ih h]
  | case6 x y ih => intro h; rw [ih h]
  | case7 => intro h; cases h
theorem elemB_ok {P : Program} {T : TypeId} {t : Ty} {eb : Nat} (h : elemB P T t eb = true) : ElemOk P T t eb := by
  unfold elemB at h
  split at h
  · rename_i i hi
    simp only [Bool.and_eq_true, beq_iff_eq] at h
    obtain ⟨⟨h1, h2⟩, h3⟩ := h
    split at h3
    · rename_i z hz
      exact ⟨i, hi, h1, h2, z, hz, zB_ok _ _ h3⟩
    · cases h3
  · cases h
theorem shapeB_ok {P : Program} {T : TypeId} {ti : TI} (h : shapeB P T ti = true) : Shape P T ti := by
  unfold shapeB at h
  unfold Shape
  split at h <;> rename_i h1 h2
  · rw [h1]; simp only [beq_iff_eq] at h; rw [h2, h]
  · rw [h1]; exact h2
  · rw [h1]; exact h2
  · rw [h1]; exact h2
  · rw [h1]; simp only [Bool.and_eq_true, beq_iff_eq] at h; obtain ⟨rfl, h⟩ := h; exact ⟨h2, elemB_ok h⟩
  · rw [h1]; exact ⟨_, h2, fieldsB_ok _ _ _ h⟩
  · cases h
theorem tyB_ok {P : Program} {T : TypeId} {ti : TI} (h : tyB P T ti = true) : TyOk P T ti := by
  unfold tyB at h
  simp only [Bool.and_eq_true] at h
  obtain ⟨⟨h1, h2⟩, h3⟩ := h
  refine ⟨h1, ?_, shapeB_ok h3⟩
  split at h2
  · rename_i i hi
    simp only [Bool.and_eq_true, beq_iff_eq] at h2
    obtain ⟨h2, h4⟩ := h2
    split at h4
    · rename_i z hz
      exact ⟨i, hi, h2, z, hz, zB_ok _ _ h4⟩
    · cases h4
  · cases h2

theorem FieldsOk.at_ {P : Program} : ∀ (t : Ty) (x : t.D) (fs : List Field) (off j : Nat) (d : Dyn), FieldsOk P t fs off → fieldG t x j = some d →
    ∃ f, fs[j]? = some f ∧ FieldOk P f d.1 (off + offF t j)
  | .pair a b, x, fs, off, 0, d, h, hg => by
    obtain ⟨f, r, rfl, h1, _⟩ := h
    simp only [fieldG, Option.some.injEq] at hg
    subst hg
    exact ⟨f, rfl, h1⟩
  | .pair a b, x, fs, off, j + 1, d, h, hg => by
    obtain ⟨f, r, rfl, _, h2⟩ := h
    simp only [fieldG] at hg
    obtain ⟨f', h3, h4⟩ := FieldsOk.at_ b x.2 r _ j d h2 hg
    refine ⟨f', by simpa using h3, ?_⟩
    rwa [Nat.add_assoc] at h4
  | .unit, _, _, _, _, _, _, hg => by simp [fieldG] at hg
  | .int _, x, fs, off, 0, d, h, hg => by
    obtain ⟨f, rfl, h1⟩ := h; simp only [fieldG, Option.some.injEq] at hg; subst hg; exact ⟨f, rfl, h1⟩
  | .bool, x, fs, off, 0, d, h, hg => by
    obtain ⟨f, rfl, h1⟩ := h; simp only [fieldG, Option.some.injEq] at hg; subst hg; exact ⟨f, rfl, h1⟩
  | .str, x, fs, off, 0, d, h, hg => by
    obtain ⟨f, rfl, h1⟩ := h; simp only [fieldG, Option.some.injEq] at hg; subst hg; exact ⟨f, rfl, h1⟩
  | .flt, x, fs, off, 0, d, h, hg => by
    obtain ⟨f, rfl, h1⟩ := h; simp only [fieldG, Option.some.injEq] at hg; subst hg; exact ⟨f, rfl, h1⟩
  | .list _, x, fs, off, 0, d, h, hg => by
    obtain ⟨f, rfl, h1⟩ := h; simp only [fieldG, Option.some.injEq] at hg; subst hg; exact ⟨f, rfl, h1⟩
  | .st _, x, fs, off, 0, d, h, hg => by
    obtain ⟨f, rfl, h1⟩ := h; simp only [fieldG, Option.some.injEq] at hg; subst hg; exact ⟨f, rfl, h1⟩
  | .int _, _, _, _, _ + 1, _, _, hg => by simp [fieldG] at hg
  | .bool, _, _, _, _ + 1, _, _, hg => by simp [fieldG] at hg
  | .str, _, _, _, _ + 1, _, _, hg => by simp [fieldG] at hg
  | .flt, _, _, _, _ + 1, _, _, hg => by simp [fieldG] at hg
  | .list _, _, _, _, _ + 1, _, _, hg => by simp [fieldG] at hg
  | .st _, _, _, _, _ + 1, _, _, hg => by simp [fieldG] at hg

/-! ### Objects -/
/-- The world outside of some blocks is as it was. -/
structure Beyond (B : Nat → Prop) (w w' : World) : Prop where
  os : w'.os = w.os
  tape : w'.tape = w.tape
  output : w'.output = w.output
  size : w.heap.size ≤ w'.heap.size
  block : ∀ k, ¬ B k → w'.heap[k]? = w.heap[k]?

theorem Beyond.refl (B : Nat → Prop) (w : World) : Beyond B w w := ⟨rfl, rfl, rfl, Nat.le_refl _, fun _ _ => rfl⟩
theorem Beyond.trans {B : Nat → Prop} {a b c : World} (h : Beyond B a b) (k : Beyond B b c) : Beyond B a c :=
  ⟨k.os.trans h.os, k.tape.trans h.tape, k.output.trans h.output, Nat.le_trans h.size k.size, fun i hi => (k.block i hi).trans (h.block i hi)⟩
theorem Beyond.of_below {B : Nat → Prop} {w w' : World} (h : Below w.heap.size w w') (hb : ∀ b, w.heap.size ≤ b → B b) : Beyond B w w' :=
  ⟨h.os, h.tape, h.output, h.size, fun k hk => h.block k (Nat.lt_of_not_le fun hl => hk (hb k hl))⟩
theorem Beyond.of_grown {B : Nat → Prop} {w w' : World} {row : Option Nat} (h : w.grownBy w' row) (hb : ∀ b, w.heap.size ≤ b → B b) (hr : ∀ b, row = some b → B b) : Beyond B w w' :=
  ⟨h.os, h.tape, h.output, h.size, fun k hk => h.block k (Nat.lt_of_not_le fun hl => hk (hb k hl)) fun e => hk (hr k e.symm)⟩
theorem Beyond.drew {B : Nat → Prop} {a w : World} (h : Beyond B a w) : Beyond B a w.drew := ⟨h.os, h.tape, h.output, h.size, h.block⟩
theorem Beyond.below {w w' : World} (h : Beyond (w.heap.size ≤ ·) w w') : Below w.heap.size w w' := ⟨h.os, h.tape, h.output, h.size, fun k hk => h.block k (by omega)⟩

/-- A row that one may write. -/
def owns (B : Nat → Prop) (w : World) (e : TypeId) (sz : Nat) (v : Value) (n : Nat) (xs : List Value) : Prop := w.ownsRow 0 e sz v n xs ∧ ∀ b, v.ownBlock = some b → B b

def ObOk (M : Nat → Prop) (b0 : Nat → Prop) (w : World) (v : Value) (ob : Ob) : Prop :=
  ob.t.ok false = true ∧ 0 < ob.t.sz ∧ ∃ xs, owns b0 w ob.e ob.t.sz v ob.l.length xs ∧ RepRow M w ob.t ob.l xs

def Msum (M0 : Nat → Prop) (ν : Nat → Value) (obs : Obs) : Nat → Prop := fun b => M0 b ∨ ∃ id ob, obs id = some ob ∧ (ν id).ownBlock = some b

structure Good (M0 : Nat → Prop) (b0 : Nat → Prop) (ν : Nat → Value) (obs : Obs) (w : World) : Prop where
  m0 : ∀ b, M0 b → ¬ b0 b
  hb : ∀ b, w.heap.size ≤ b → b0 b
  ob : ∀ id ob, obs id = some ob → ObOk (Msum M0 ν obs) b0 w (ν id) ob
  ne : ∀ i j obi obj, obs i = some obi → obs j = some obj → i ≠ j → ∀ b, (ν i).ownBlock = some b → (ν j).ownBlock ≠ some b

def RepA (M : Nat → Prop) (ν : Nat → Value) (dom : Nat → Prop) (obs : Obs) (w : World) : AV → Value → Prop
  | .bad, _ => True
  | .und, v => v = undef
  | .nil, v => v = .slice none 0 0
  | .val t x, v => RepV M w t x v
  | .tup l, v => ∃ vs, v = .tuple vs ∧ vs.size = l.length ∧ ∀ (i : Nat) (d : Dyn), l[i]? = some d → ∃ u, vs[i]? = some u ∧ RepV M w d.1 d.2 u
  | .own id, v => dom id ∧ v = ν id
  | .ptr id ix path, v => dom id ∧ ∀ ob, obs id = some ob → ix < ob.l.length ∧ ∃ g n c, ν id = .slice (some ⟨g, 0, none⟩) n c ∧ v = .pointer (some ⟨g, ix * ob.t.sz + offP path ob.t, none⟩)
  | .win id lo n, v => dom id ∧ ∀ ob, obs id = some ob → 0 < n ∧ lo + n ≤ ob.l.length ∧ ∃ g nn c cap, ν id = .slice (some ⟨g, 0, none⟩) nn c ∧ v = .slice (some ⟨g, lo * ob.t.sz, none⟩) n cap ∧ n ≤ cap
  | .mem t x, v => t.ok false = true ∧ ∃ a cs, v = .pointer (some a) ∧ a.block < w.heap.size ∧ ¬ M a.block ∧ Rep M w t x cs ∧ ∀ j u, cs[j]? = some u → w.cell? (a.add j) = some u
  | .fn f, v => v = .func (.func f) #[] #[]

/-- A later state: what was is as it was, but for one object's number. -/
structure Later (M0 : Nat → Prop) (nid : Nat) (ν ν' : Nat → Value) (obs : Obs) (nob : Option Ob) (w w' : World) : Prop where
  below : Below w.heap.size w w'
  nu : ∀ id, id ≠ nid → ν' id = ν id
  new : ∀ ob, nob = some ob → ∀ b, (ν' nid).ownBlock = some b → w.heap.size ≤ b

def upd (obs : Obs) (nid : Nat) (nob : Option Ob) : Obs := fun id => if id = nid then nob else obs id

theorem Later.msum {M0 : Nat → Prop} {nid : Nat} {ν ν' : Nat → Value} {obs : Obs} {nob : Option Ob} {w w' : World} (h : Later M0 nid ν ν' obs nob w w') :
    ∀ b, b < w.heap.size → Msum M0 ν' (upd obs nid nob) b → Msum M0 ν obs b := by
  intro b hb hm
  rcases hm with hm | ⟨id, ob, ho, hv⟩
  · exact .inl hm
  · unfold upd at ho
    split at ho
    · rename_i e
      subst e
      exact absurd (h.new ob ho b hv) (by omega)
    · rename_i e
      exact .inr ⟨id, ob, ho, by rw [← h.nu id e]; exact hv⟩

theorem RepA.later {M0 : Nat → Prop} {nid : Nat} {ν ν' : Nat → Value} {dom : Nat → Prop} {obs : Obs} {nob : Option Ob} {w w' : World} (h : Later M0 nid ν ν' obs nob w w') (hd : ¬ dom nid) {a : AV} {v : Value}
    (hr : RepA (Msum M0 ν obs) ν dom obs w a v) : RepA (Msum M0 ν' (upd obs nid nob)) ν' (fun id => dom id ∨ id = nid) (upd obs nid nob) w' a v := by
  have hA := Agree.of_below (M := Msum M0 ν obs) h.below
  cases a with
  | bad => trivial
  | und => exact hr
  | nil => exact hr
  | val t x => exact RepV.next hA h.msum hr
  | tup l =>
    obtain ⟨vs, e, h1, h2⟩ := hr
    exact ⟨vs, e, h1, fun i d hi => by
      obtain ⟨u, hu, hr⟩ := h2 i d hi
      exact ⟨u, hu, RepV.next hA h.msum hr⟩⟩
  | own id =>
    obtain ⟨h1, h2⟩ := hr
    exact ⟨.inl h1, by rw [h2, h.nu id (fun e => hd (e ▸ h1))]⟩
  | ptr id ix path =>
    obtain ⟨h1, h2⟩ := hr
    have hne : id ≠ nid := fun e => hd (e ▸ h1)
    refine ⟨.inl h1, fun ob ho => ?_⟩
    simp only [upd, if_neg hne] at ho
    obtain ⟨h3, g, n, c, h4, h5⟩ := h2 ob ho
    exact ⟨h3, g, n, c, by rw [h.nu id hne, h4], h5⟩
  | win id lo n =>
    obtain ⟨h1, h2⟩ := hr
    have hne : id ≠ nid := fun e => hd (e ▸ h1)
    refine ⟨.inl h1, fun ob ho => ?_⟩
    simp only [upd, if_neg hne] at ho
    obtain ⟨h0, h3, g, nn, c, cap, h4, h5⟩ := h2 ob ho
    exact ⟨h0, h3, g, nn, c, cap, by rw [h.nu id hne, h4], h5⟩
  | mem t x =>
    obtain ⟨ho, a, cs, e, h1, h2, h3, h4⟩ := hr
    refine ⟨ho, a, cs, e, Nat.lt_of_lt_of_le h1 h.below.size, fun hm => h2 (h.msum _ h1 hm), Rep.next hA h.msum t x cs h3, fun j u hj => ?_⟩
    exact hA.cell (by rw [block_add]; exact h2) (h4 j u hj)
  | fn f => exact hr

/-- Nothing new, or nothing but blocks that nobody's object is. -/
theorem Good.same {M0 : Nat → Prop} {b0 : Nat → Prop} {nid : Nat} {ν : Nat → Value} {obs : Obs} {w w' : World} (h : Good M0 b0 ν obs w) (hn : obs nid = none) (hb : Below w.heap.size w w') :
    Later M0 nid ν ν obs none w w' ∧ Good M0 b0 ν (upd obs nid none) w' := by
  have hu : upd obs nid none = obs := by
    funext id
    unfold upd
    split
    · rename_i e; rw [e, hn]
    · rfl
  refine ⟨⟨hb, fun _ _ => rfl, fun ob e => by cases e⟩, ?_⟩
  rw [hu]
  refine ⟨h.m0, fun b hle => h.hb b (Nat.le_trans hb.size hle), fun id ob ho => ?_, h.ne⟩
  obtain ⟨h1, h2, xs, h3, h4⟩ := h.ob id ob ho
  refine ⟨h1, h2, xs, ⟨h3.1.kept (row := none) ⟨hb.os, hb.tape, hb.output, hb.size, fun k hk _ => hb.block k hk⟩ (by cases (ν id).ownBlock <;> simp), h3.2⟩, ?_⟩
  exact h4.next (Agree.of_below hb) (fun _ _ hm => hm)

/-- A new object, with what it leads to. -/
theorem Good.addW {M0 : Nat → Prop} {b0 : Nat → Prop} {nid : Nat} {ν : Nat → Value} {obs : Obs} {w w' : World} (h : Good M0 b0 ν obs w) (hb : Below w.heap.size w w') (ob : Ob) (v : Value)
    (hv : ∀ b, v.ownBlock = some b → w.heap.size ≤ b) (hok : ob.t.ok false = true) (hs : 0 < ob.t.sz) (xs : List Value) (ho : w'.ownsRow 0 ob.e ob.t.sz v ob.l.length xs) (hr : RepRow (fun b => Msum M0 ν obs b ∨ v.ownBlock = some b) w' ob.t ob.l xs) :
    Later M0 nid ν (fun id => if id = nid then v else ν id) obs (some ob) w w' ∧ Good M0 b0 (fun id => if id = nid then v else ν id) (upd obs nid (some ob)) w' := by
  have hL : Later M0 nid ν (fun id => if id = nid then v else ν id) obs (some ob) w w' := ⟨hb, fun id e => by simp [e], fun ob' _ b hb' => hv b (by simpa using hb')⟩
  have hsub : ∀ b, Msum M0 (fun id => if id = nid then v else ν id) (upd obs nid (some ob)) b → Msum M0 ν obs b ∨ v.ownBlock = some b := by
    rintro b (hb | ⟨j, oj, hj, hb⟩)
    · exact .inl (.inl hb)
    · by_cases e : j = nid
      · simp only [e, if_true] at hb
        exact .inr hb
      · simp only [if_neg e] at hb
        simp only [upd, if_neg e] at hj
        exact .inl (.inr ⟨j, oj, hj, hb⟩)
  refine ⟨hL, h.m0, fun b hle => h.hb b (Nat.le_trans hb.size hle), fun id ob' ho' => ?_, fun i j obi obj hi hj hij b hbi => ?_⟩
  · by_cases e : id = nid
    · subst e
      simp only [upd, if_true, Option.some.injEq] at ho'
      subst ho'
      simp only [if_true]
      exact ⟨hok, hs, xs, ⟨ho, fun b hb' => h.hb b (hv b hb')⟩, hr.next (Agree.refl _ _) (fun b _ hb => hsub b hb)⟩
    · simp only [upd, if_neg e] at ho'
      simp only [if_neg e]
      obtain ⟨h1, h2, ys, h3, h4⟩ := h.ob id ob' ho'
      refine ⟨h1, h2, ys, ⟨h3.1.kept (row := none) ⟨hb.os, hb.tape, hb.output, hb.size, fun k hk _ => hb.block k hk⟩ (by cases (ν id).ownBlock <;> simp), h3.2⟩, ?_⟩
      exact h4.next (Agree.of_below hb) hL.msum
  · have old : ∀ k obk, upd obs nid (some ob) k = some obk → k ≠ nid → ∀ b, (ν k).ownBlock = some b → b < w.heap.size := by
      intro k obk hk hkn b hb'
      simp only [upd, if_neg hkn] at hk
      obtain ⟨_, _, ys, h3, _⟩ := h.ob k obk hk
      exact (h3.1.lt b hb').2
    by_cases ei : i = nid
    · subst ei
      have ej : j ≠ i := fun e => hij e.symm
      simp only [if_true] at hbi
      simp only [if_neg ej]
      intro hbj
      have := old j obj hj ej b hbj
      have := hv b hbi
      omega
    · by_cases ej : j = nid
      · subst ej
        simp only [if_neg ei] at hbi
        simp only [if_true]
        intro hbj
        have := old i obi hi ei b hbi
        have := hv b hbj
        omega
      · simp only [if_neg ei] at hbi
        simp only [if_neg ej]
        simp only [upd, if_neg ei] at hi
        simp only [upd, if_neg ej] at hj
        exact h.ne i j obi obj hi hj hij b hbi

/-- A new object. -/
theorem Good.add {M0 : Nat → Prop} {b0 : Nat → Prop} {nid : Nat} {ν : Nat → Value} {obs : Obs} {w w' : World} (h : Good M0 b0 ν obs w) (_hn : obs nid = none) (hb : Below w.heap.size w w') (ob : Ob) (v : Value)
    (hv : ∀ b, v.ownBlock = some b → w.heap.size ≤ b) (hok : ob.t.ok false = true) (hs : 0 < ob.t.sz) (xs : List Value) (ho : w'.ownsRow 0 ob.e ob.t.sz v ob.l.length xs) (hr : RepRow (Msum M0 ν obs) w ob.t ob.l xs) :
    Later M0 nid ν (fun id => if id = nid then v else ν id) obs (some ob) w w' ∧ Good M0 b0 (fun id => if id = nid then v else ν id) (upd obs nid (some ob)) w' := by
  have hL : Later M0 nid ν (fun id => if id = nid then v else ν id) obs (some ob) w w' := ⟨hb, fun id e => by simp [e], fun ob' _ b hb' => hv b (by simpa using hb')⟩
  refine ⟨hL, h.m0, fun b hle => h.hb b (Nat.le_trans hb.size hle), fun id ob' ho' => ?_, fun i j obi obj hi hj hij b hbi => ?_⟩
  · by_cases e : id = nid
    · subst e
      simp only [upd, if_true, Option.some.injEq] at ho'
      subst ho'
      simp only [if_true]
      exact ⟨hok, hs, xs, ⟨ho, fun b hb' => h.hb b (hv b hb')⟩, hr.next (Agree.of_below hb) hL.msum⟩
    · simp only [upd, if_neg e] at ho'
      simp only [if_neg e]
      obtain ⟨h1, h2, ys, h3, h4⟩ := h.ob id ob' ho'
      refine ⟨h1, h2, ys, ⟨h3.1.kept (row := none) ⟨hb.os, hb.tape, hb.output, hb.size, fun k hk _ => hb.block k hk⟩ (by cases (ν id).ownBlock <;> simp), h3.2⟩, ?_⟩
      exact h4.next (Agree.of_below hb) hL.msum
  · have old : ∀ k obk, upd obs nid (some ob) k = some obk → k ≠ nid → ∀ b, (ν k).ownBlock = some b → b < w.heap.size := by
      intro k obk hk hkn b hb'
      simp only [upd, if_neg hkn] at hk
      obtain ⟨_, _, ys, h3, _⟩ := h.ob k obk hk
      exact (h3.1.lt b hb').2
    by_cases ei : i = nid
    · subst ei
      have ej : j ≠ i := fun e => hij e.symm
      simp only [if_true] at hbi
      simp only [if_neg ej]
      intro hbj
      have := old j obj hj ej b hbj
      have := hv b hbi
      omega
    · by_cases ej : j = nid
      · subst ej
        simp only [if_neg ei] at hbi
        simp only [if_true]
        intro hbj
        have := old i obi hi ei b hbi
        have := hv b hbj
        omega
      · simp only [if_neg ei] at hbi
        simp only [if_neg ej]
        simp only [upd, if_neg ei] at hi
        simp only [upd, if_neg ej] at hj
        exact h.ne i j obi obj hi hj hij b hbi

end Go.FK
