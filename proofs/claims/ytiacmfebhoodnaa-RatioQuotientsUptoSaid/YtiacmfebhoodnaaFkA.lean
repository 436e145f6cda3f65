/- The abstract values of an interpreter for Go's loaded functions, and what it means that a value stands for one of them. Plain definitions and lemmas; no program in sight. -/
import Derived.Below
import Derived.Laws.OwnMore
import Derived.Laws.AppendOwnNone
import Derived.Laws.CopyOwn
import Derived.KernelRfl
namespace Go.FK
open Go.RowKit

/-- A type as the interpreter knows it. -/
inductive Ty where
  | int (k : IntKind)
  | bool
  | str
  | flt
  | list (t : Ty)
  | st (t : Ty)
  | unit
  | pair (a b : Ty)
  deriving DecidableEq

@[reducible] def Ty.D : Ty → Type
  | .int _ => Int
  | .bool => Bool
  | .str => ByteArray
  | .flt => Nat
  | .list t => List t.D
  | .st t => t.D
  | .unit => Unit
  | .pair a b => a.D × b.D

def Ty.sz : Ty → Nat
  | .st t => t.sz
  | .unit => 0
  | .pair a b => a.sz + b.sz
  | _ => 1

def Ty.zero : (t : Ty) → t.D
  | .int _ => (0 : Int)
  | .bool => false
  | .str => (⟨#[]⟩ : ByteArray)
  | .flt => (0 : Nat)
  | .list _ => []
  | .st t => t.zero
  | .unit => ()
  | .pair a b => (a.zero, b.zero)

def Ty.isSt : Ty → Bool
  | .st _ => true
  | _ => false

/-- Types whose values are values of Go (no bare pair): f: a struct's fields. -/
def Ty.ok : (f : Bool) → Ty → Bool
  | _, .list t => t.ok false
  | _, .st t => t.ok true
  | f, .unit => f
  | f, .pair a b => f && a.ok false && b.ok true
  | _, _ => true

/-- A value's cells, put together. -/
def ofCells (t : Ty) (cs : List Value) : Value := if t.isSt then .agg cs.toArray else cs.headD (.tuple #[])

/-- 'cs' are the cells of the data 'x' in the world w; what they lead to lies outside of M. -/
def Rep (M : Nat → Prop) (w : World) : (t : Ty) → t.D → List Value → Prop
  | .int k, n, cs => cs = [.int k n]
  | .bool, b, cs => cs = [.bool b]
  | .str, s, cs => cs = [.string s]
  | .flt, b, cs => cs = [.float .f64 b]
  | .list t, (l : List t.D), cs => ∃ A c, cs = [.slice A l.length c] ∧ l.length ≤ c ∧ c ≤ maxLen ∧
      (0 < l.length → ∃ a, A = some a ∧ a.block < w.heap.size ∧ ¬ M a.block ∧ ∀ i x, l[i]? = some x → ∃ es, Rep M w t x es ∧ ∀ j v, es[j]? = some v → w.cell? (a.add (i * t.sz + j)) = some v)
  | .st t, x, cs => Rep M w t x cs
  | .unit, _, cs => cs = []
  | .pair a b, x, cs => ∃ c1 c2, cs = c1 ++ c2 ∧ Rep M w a x.1 c1 ∧ Rep M w b x.2 c2

/-- Outside of M the old blocks are as they were. -/
structure Agree (M : Nat → Prop) (w w' : World) : Prop where
  size : w.heap.size ≤ w'.heap.size
  block : ∀ b, b < w.heap.size → ¬ M b → w'.heap[b]? = w.heap[b]?

theorem Agree.refl (M : Nat → Prop) (w : World) : Agree M w w := ⟨Nat.le_refl _, fun _ _ _ => rfl⟩
theorem Agree.of_below {M : Nat → Prop} {w w' : World} (h : Below w.heap.size w w') : Agree M w w' := ⟨h.size, fun b hb _ => h.block b hb⟩
theorem Agree.of_grown {M : Nat → Prop} {w w' : World} {row : Option Nat} (h : w.grownBy w' row) (hr : ∀ g, row = some g → M g) : Agree M w w' :=
  ⟨h.size, fun b hb hM => h.block b hb fun e => hM (hr b e.symm)⟩
theorem Agree.cell {M : Nat → Prop} {w w' : World} (h : Agree M w w') {a : Addr} {v : Value} (hM : ¬ M a.block) (hc : w.cell? a = some v) : w'.cell? a = some v :=
  (World.cell?_of_block (w := w) (h.block _ (World.block_lt_of_cell? w a hc) hM)).trans hc

theorem block_add (a : Addr) (n : Nat) : (a.add n).block = a.block := by unfold Addr.add; split <;> rfl
theorem add_add (a : Addr) (i j : Nat) : (a.add i).add j = a.add (i + j) := by
  unfold Addr.add
  by_cases hi : i = 0 <;> by_cases hj : j = 0 <;> simp [hi, hj, Nat.add_assoc]
theorem add_lit (g o n : Nat) : (⟨g, o, none⟩ : Addr).add n = ⟨g, o + n, none⟩ := by
  unfold Addr.add
  by_cases h : n = 0 <;> simp [h]

/-- What stands for data stays so: old blocks outside of M are kept, and what was not written need not be written later. -/
theorem Rep.next {M M' : Nat → Prop} {w w' : World} (hA : Agree M w w') (hM : ∀ b, b < w.heap.size → M' b → M b) :
    ∀ (t : Ty) (x : t.D) (cs : List Value), Rep M w t x cs → Rep M' w' t x cs
  | .int _, _, _, h => h
  | .bool, _, _, h => h
  | .str, _, _, h => h
  | .flt, _, _, h => h
  | .st t, x, cs, h => Rep.next hA hM t x cs h
  | .unit, _, _, h => h
  | .pair a b, x, cs, h => by
    obtain ⟨c1, c2, rfl, h1, h2⟩ := h
    exact ⟨c1, c2, rfl, Rep.next hA hM a x.1 c1 h1, Rep.next hA hM b x.2 c2 h2⟩
  | .list t, l, cs, h => by
    obtain ⟨A, c, rfl, hl, hc, hel⟩ := h
    refine ⟨A, c, rfl, hl, hc, fun hn => ?_⟩
    obtain ⟨a, rfl, hs, hna, hel⟩ := hel hn
    refine ⟨a, rfl, Nat.lt_of_lt_of_le hs hA.size, fun h' => hna (hM _ hs h'), fun i x hi => ?_⟩
    obtain ⟨es, h1, h2⟩ := hel i x hi
    exact ⟨es, Rep.next hA hM t _ es h1, fun j v hj => hA.cell (by rw [block_add]; exact hna) (h2 j v hj)⟩

theorem Rep.len {M : Nat → Prop} {w : World} : ∀ (t : Ty) (x : t.D) (cs : List Value), Rep M w t x cs → cs.length = t.sz
  | .int _, _, _, h => by rw [h]; rfl
  | .bool, _, _, h => by rw [h]; rfl
  | .str, _, _, h => by rw [h]; rfl
  | .flt, _, _, h => by rw [h]; rfl
  | .st t, x, cs, h => Rep.len t x cs h
  | .unit, _, _, h => by rw [h]; rfl
  | .pair a b, x, cs, h => by
    obtain ⟨c1, c2, rfl, h1, h2⟩ := h
    simp [Ty.sz, Rep.len a x.1 c1 h1, Rep.len b x.2 c2 h2]
  | .list t, l, cs, h => by
    obtain ⟨A, c, rfl, _⟩ := h
    rfl

theorem Rep.one {M : Nat → Prop} {w : World} : ∀ (t : Ty) (x : t.D) (cs : List Value), Rep M w t x cs → ∀ v ∈ cs, v.oneCell' = true
  | .int _, _, _, h => by rw [h]; simp [Value.oneCell']
  | .bool, _, _, h => by rw [h]; simp [Value.oneCell']
  | .str, _, _, h => by rw [h]; simp [Value.oneCell']
  | .flt, _, _, h => by rw [h]; simp [Value.oneCell']
  | .st t, x, cs, h => Rep.one t x cs h
  | .unit, _, _, h => by rw [h]; simp
  | .pair a b, x, cs, h => by
    obtain ⟨c1, c2, rfl, h1, h2⟩ := h
    intro v hv
    rcases List.mem_append.1 hv with hv | hv
    · exact Rep.one a x.1 c1 h1 v hv
    · exact Rep.one b x.2 c2 h2 v hv
  | .list t, l, cs, h => by
    obtain ⟨A, c, rfl, _⟩ := h
    simp [Value.oneCell']

theorem Rep.zero (M : Nat → Prop) (w : World) : ∀ (t : Ty), ∃ cs, Rep M w t t.zero cs
  | .int _ => ⟨_, rfl⟩
  | .bool => ⟨_, rfl⟩
  | .str => ⟨_, rfl⟩
  | .flt => ⟨_, rfl⟩
  | .st t => Rep.zero M w t
  | .unit => ⟨_, rfl⟩
  | .pair a b => by
    obtain ⟨c1, h1⟩ := Rep.zero M w a
    obtain ⟨c2, h2⟩ := Rep.zero M w b
    exact ⟨_, c1, c2, rfl, h1, h2⟩
  | .list t => ⟨_, none, 0, rfl, Nat.le_refl _, Nat.zero_le _, fun h => absurd h (by simp [Ty.zero])⟩

/-- The cells of a zero value. -/
def Ty.zcells : Ty → List Value
  | .int k => [.int k 0]
  | .bool => [.bool false]
  | .str => [.string ⟨#[]⟩]
  | .flt => [.float .f64 0]
  | .list _ => [.slice none 0 0]
  | .st t => t.zcells
  | .unit => []
  | .pair a b => a.zcells ++ b.zcells

theorem Rep.zcells (M : Nat → Prop) (w : World) : ∀ (t : Ty), Rep M w t t.zero t.zcells
  | .int _ => rfl
  | .bool => rfl
  | .str => rfl
  | .flt => rfl
  | .st t => Rep.zcells M w t
  | .unit => rfl
  | .pair a b => ⟨_, _, rfl, Rep.zcells M w a, Rep.zcells M w b⟩
  | .list t => ⟨none, 0, rfl, Nat.le_refl _, Nat.zero_le _, fun h => absurd h (by simp [Ty.zero])⟩

/-- A value stands for data. -/
def RepV (M : Nat → Prop) (w : World) (t : Ty) (x : t.D) (v : Value) : Prop := t.ok false = true ∧ ∃ cs, Rep M w t x cs ∧ v = ofCells t cs

theorem RepV.next {M M' : Nat → Prop} {w w' : World} (hA : Agree M w w') (hM : ∀ b, b < w.heap.size → M' b → M b) {t : Ty} {x : t.D} {v : Value} (h : RepV M w t x v) : RepV M' w' t x v := by
  obtain ⟨ho, cs, h1, rfl⟩ := h
  exact ⟨ho, cs, Rep.next hA hM t x cs h1, rfl⟩

theorem ofCells_cells {M : Nat → Prop} {w : World} {t : Ty} (ht : t.ok false = true) {x : t.D} {cs : List Value} (h : Rep M w t x cs) : (ofCells t cs).cells = cs.toArray := by
  cases t with
  | st t => simp [ofCells, Ty.isSt, Value.cells]
  | unit => simp [Ty.ok] at ht
  | pair a b => simp [Ty.ok] at ht
  | list t => obtain ⟨A, c, rfl, _⟩ := h; simp [ofCells, Ty.isSt, Value.cells]
  | int k => simp only [Rep] at h; subst h; simp [ofCells, Ty.isSt, Value.cells]
  | bool => simp only [Rep] at h; subst h; simp [ofCells, Ty.isSt, Value.cells]
  | str => simp only [Rep] at h; subst h; simp [ofCells, Ty.isSt, Value.cells]
  | flt => simp only [Rep] at h; subst h; simp [ofCells, Ty.isSt, Value.cells]

end Go.FK
