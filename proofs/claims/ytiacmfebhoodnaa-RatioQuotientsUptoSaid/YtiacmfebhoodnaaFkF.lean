/- Operations that write nothing that is there: what the interpreter says of each is what the machine does. First part: the frame of the proof, numbers, loads, new variables. -/
import Derived.Test.YtiacmfebhoodnaaFkE
namespace Go.FK
open Go.RowKit

def RepDs (M : Nat → Prop) (w : World) : List Dyn → List Value → Prop
  | [], [] => True
  | d :: ds, v :: vs => RepV M w d.1 d.2 v ∧ RepDs M w ds vs
  | _, _ => False

def tupleOf : List Value → Value
  | v :: [] => v
  | vs => .tuple vs.toArray

/-- A call that runs a body, or one of the model's own entries. -/
def Does (P : Program) (f : FuncId) (args : Array Value) (w : World) (R : Ending → World → Prop) : Prop :=
  ((callFunc f args).run P w = .ok (.enter f args) w ∧ Calls P f args w R) ∨ ∃ v w', (callFunc f args).run P w = .ok (.value v) w' ∧ R (.returned v) w'

/-- What is known of a function: where the plain function answers, the call returns what stands for the answer, and nothing that was there has changed. -/
def Contract (P : Program) (f : FuncId) (fs : FS) : Prop :=
  ∀ x r, fs.f x = some r → ∀ M w vs, (∀ b, M b → b < w.heap.size) → RepDs M w (encT fs.ps x) vs →
    Does P f vs.toArray w fun e w' => ∃ us, e = .returned (tupleOf us) ∧ RepDs M w' (encT fs.rs r) us ∧ Below w.heap.size w w'

/-- A row that the caller owns. -/
def ObIn (M : Nat → Prop) (w : World) (row : Value) (ob : Ob) : Prop :=
  ob.t.ok false = true ∧ 0 < ob.t.sz ∧ ∃ xs, w.ownsRow 0 ob.e ob.t.sz row ob.l.length xs ∧ RepRow M w ob.t ob.l xs

def RepIn (M : Nat → Prop) (w : World) (row : Value) : List PK → List Dyn → List Value → Prop
  | [], [], [] => True
  | .val _ :: ps, d :: ds, v :: vs => RepV M w d.1 d.2 v ∧ RepIn M w row ps ds vs
  | .win e _ :: ps, ⟨.list u, l⟩ :: ⟨.flt, lo⟩ :: ⟨.flt, n⟩ :: ds, v :: vs => ObIn M w row ⟨e, u, l⟩ ∧ 0 < n ∧ lo + n ≤ l.length ∧
      (∃ g nn c cap, row = .slice (some ⟨g, 0, none⟩) nn c ∧ v = .slice (some ⟨g, lo * u.sz, none⟩) n cap ∧ n ≤ cap) ∧ RepIn M w row ps ds vs
  | .obj e _ :: ps, d :: ds, v :: vs => ObIn M w row ⟨e, d.1, [d.2]⟩ ∧ (∃ g n c, row = .slice (some ⟨g, 0, none⟩) n c ∧ v = .pointer (some ⟨g, 0, none⟩)) ∧ RepIn M w row ps ds vs
  | _, _, _ => False

/-- What is known of a function that writes one of its arguments. -/
def ContractG (P : Program) (f : FuncId) (fg : FG) : Prop :=
  ∀ x r, fg.f x = some r → ∀ M w vs row, (∀ b, M b → b < w.heap.size) → (∀ b, row.ownBlock = some b → M b) → RepIn M w row fg.ps (encT (fg.ps.flatMap PK.ins) x) vs →
    Does P f vs.toArray w fun e w' => ∃ us o rds, e = .returned (tupleOf us) ∧ encT (fg.ps.flatMap PK.outs ++ fg.rs) r = o :: rds ∧ (∀ p ob, ioP fg.ps = some p → p.ob o = some ob → ObIn M w' row ob) ∧
      RepDs M w' rds us ∧ Beyond (fun b => w.heap.size ≤ b ∨ row.ownBlock = some b) w w'

/-- What is known of a function that hands over something new. -/
def ContractW (P : Program) (f : FuncId) (fw : FW) : Prop :=
  ∀ x r, fw.f x = some r → ∀ M w vs, (∀ b, M b → b < w.heap.size) → RepDs M w (encT fw.ps x) vs →
    Does P f vs.toArray w fun e w' => ∃ v row, e = .returned v ∧ (if fw.bx = true then 0 < r.length ∧ ∃ g n c, row = .slice (some ⟨g, 0, none⟩) n c ∧ v = .pointer (some ⟨g, 0, none⟩) else v = row) ∧
      (∀ b, row.ownBlock = some b → w.heap.size ≤ b) ∧ ObIn (fun b => M b ∨ row.ownBlock = some b) w' row ⟨fw.e, fw.t, r⟩ ∧ Below w.heap.size w w'

def FreeSound (P : Program) (nid : Nat) (obsm : Obs) (ρ : Operand → AV) (op : Op) (av : AV) (nob : Option Ob) : Prop :=
  ∀ (M0 : Nat → Prop) (b0 : Nat → Prop) (ν : Nat → Value) (obs : Obs) (dom : Nat → Prop) (w : World) (a : Act) (o : Oper), o.op = op → Good M0 b0 ν obs w → (∀ id ob, obs id = some ob → dom id) →
    (∀ id ob, obsm id = some ob → obs id = some ob) → (∀ x ∈ op.operands, RepA (Msum M0 ν obs) ν dom obs w (ρ x) (a.eval x)) → obs nid = none → ¬ dom nid →
    ∀ (next : Act → World → Prop) (Q : Exit → Act → World → Prop),
      (∀ v w' ν', Later M0 nid ν ν' obs nob w w' → Good M0 b0 ν' (upd obs nid nob) w' →
        RepA (Msum M0 ν' (upd obs nid nob)) ν' (fun id => dom id ∨ id = nid) (upd obs nid nob) w' av v → next (a.put o.dst v) w') → o.wp P a w next Q

theorem wp_value {P : Program} {o : Oper} {a : Act} {w w' : World} {v : Value} {next : Act → World → Prop} {Q : Exit → Act → World → Prop}
    (h : (execOp a.eval o).run P w = .ok (.value v) w') (hn : next (a.put o.dst v) w') : o.wp P a w next Q := by
  unfold Oper.wp
  rw [h]
  exact hn

variable {P : Program} {nid : Nat} {obsm : Obs} {ρ : Operand → AV}

theorem freeSound_pure {op : Op} {av : AV}
    (h : ∀ (M0 : Nat → Prop) (b0 : Nat → Prop) (ν : Nat → Value) (obs : Obs) (dom : Nat → Prop) (w : World) (a : Act) (o : Oper), o.op = op → Good M0 b0 ν obs w → (∀ id ob, obs id = some ob → dom id) →
      (∀ id ob, obsm id = some ob → obs id = some ob) → (∀ x ∈ op.operands, RepA (Msum M0 ν obs) ν dom obs w (ρ x) (a.eval x)) →
      ∃ v, (execOp a.eval o).run P w = .ok (.value v) w ∧ RepA (Msum M0 ν obs) ν dom obs w av v) : FreeSound P nid obsm ρ op av none := by
  intro M0 b0 ν obs dom w a o ho hg hd hs hr hn hnd next Q hK
  obtain ⟨v, hv, hrep⟩ := h M0 b0 ν obs dom w a o ho hg hd hs hr
  obtain ⟨hL, hG⟩ := hg.same hn (Below.refl _ w)
  exact wp_value hv (hK v w ν hL hG (hrep.later hL hnd))

theorem freeSound_new {op : Op} {av : AV} {ob : Ob} (hok : ob.t.ok false = true) (hsz : 0 < ob.t.sz)
    (h : ∀ (M0 : Nat → Prop) (b0 : Nat → Prop) (ν : Nat → Value) (obs : Obs) (dom : Nat → Prop) (w : World) (a : Act) (o : Oper), o.op = op → Good M0 b0 ν obs w → (∀ id ob, obs id = some ob → dom id) →
      (∀ id ob, obsm id = some ob → obs id = some ob) → (∀ x ∈ op.operands, RepA (Msum M0 ν obs) ν dom obs w (ρ x) (a.eval x)) →
      ∃ v w' u xs, (execOp a.eval o).run P w = .ok (.value v) w' ∧ Below w.heap.size w w' ∧ w'.ownsRow 0 ob.e ob.t.sz u ob.l.length xs ∧ RepRow (Msum M0 ν obs) w ob.t ob.l xs ∧
        (∀ b, u.ownBlock = some b → w.heap.size ≤ b) ∧
        (∀ (ν' : Nat → Value) (obs' : Obs) (M : Nat → Prop) (dom' : Nat → Prop), ν' nid = u → obs' nid = some ob → dom' nid → RepA M ν' dom' obs' w' av v)) : FreeSound P nid obsm ρ op av (some ob) := by
  intro M0 b0 ν obs dom w a o ho hg hd hs hr hn hnd next Q hK
  obtain ⟨v, w', u, xs, hv, hb, how, hrow, hnew, hrep⟩ := h M0 b0 ν obs dom w a o ho hg hd hs hr
  obtain ⟨hL, hG⟩ := hg.add hn hb ob u hnew hok hsz xs how hrow
  exact wp_value hv (hK v w' _ hL hG (hrep _ _ _ _ (by simp) (by simp [upd]) (.inr rfl)))

/-! ### Values -/
theorem repV_int {M : Nat → Prop} {w : World} {k : IntKind} {n : Int} {v : Value} (h : RepV M w (.int k) n v) : v = .int k n := by
  obtain ⟨_, cs, h, rfl⟩ := h
  simp only [Rep] at h
  subst h
  rfl
theorem repV_bool {M : Nat → Prop} {w : World} {b : Bool} {v : Value} (h : RepV M w .bool b v) : v = .bool b := by
  obtain ⟨_, cs, h, rfl⟩ := h
  simp only [Rep] at h
  subst h
  rfl
theorem repV_str {M : Nat → Prop} {w : World} {s : ByteArray} {v : Value} (h : RepV M w .str s v) : v = .string s := by
  obtain ⟨_, cs, h, rfl⟩ := h
  simp only [Rep] at h
  subst h
  rfl
theorem int_repV (M : Nat → Prop) (w : World) (k : IntKind) (n : Int) : RepV M w (.int k) n (.int k n) := ⟨rfl, _, rfl, rfl⟩
theorem bool_repV (M : Nat → Prop) (w : World) (b : Bool) : RepV M w .bool b (.bool b) := ⟨rfl, _, rfl, rfl⟩
theorem str_repV (M : Nat → Prop) (w : World) (s : ByteArray) : RepV M w .str s (.string s) := ⟨rfl, _, rfl, rfl⟩

theorem cv_rep (M : Nat → Prop) (ν : Nat → Value) (dom : Nat → Prop) (obs : Obs) (w : World) (v : Value) : RepA M ν dom obs w (cv v) v := by
  unfold cv
  split
  · exact int_repV _ _ _ _
  · exact bool_repV _ _ _
  · exact str_repV _ _ _
  · exact ⟨rfl, _, rfl, rfl⟩
  · rfl
  · trivial

theorem castD_self (t : Ty) (x : t.D) : castD t t x = some x := by simp [castD]

theorem toDyn_rep {M : Nat → Prop} {ν : Nat → Value} {dom : Nat → Prop} {obs : Obs} {w : World} {t : Ty} {a : AV} {v : Value} {d : Dyn} (h : toDyn t a = some d) (hr : RepA M ν dom obs w a v) :
    RepV M w d.1 d.2 v := by
  unfold toDyn at h
  split at h
  · simp only [Option.some.injEq] at h
    subst h
    exact hr
  · split at h
    · split at h
      · rename_i ht
        simp only [Option.some.injEq] at h
        subst h
        have : v = .slice none 0 0 := hr
        subst this
        exact ⟨by simpa [Ty.ok] using ht, _, ⟨none, 0, rfl, Nat.le_refl _, Nat.zero_le _, fun h => absurd h (by simp)⟩, rfl⟩
      · cases h
    · cases h
  · cases h

/-! ### The operations -/
theorem run_bits (op : BinOp) (hop : op = .and ∨ op = .or ∨ op = .xor ∨ op = .andNot) (k : IntKind) (a b : Int) (w : World) : (Op.intBits op k a b).run P w = .ok (.int k (bitsI op k a b)) w := by
  rcases hop with rfl | rfl | rfl | rfl <;> simp [Op.intBits, bitsI]

theorem binI_sound {R : Type} {op : BinOp} {k k' : IntKind} {a b : Int} {K : AV → Option R} {r : R} (hk : (isShift op || k == k') = true) (h : binI op k a b K = some r) (T : TypeId) :
    ∃ t, ∃ x : t.D, K (.val t x) = some r ∧ ∀ (M : Nat → Prop) (w : World), ∃ v, (binOp op T (.int k a) (.int k' b)).run P w = .ok v w ∧ RepV M w t x v := by
  cases op
  case shl =>
    simp only [binI] at h
    cases hb : decide (b < 0) <;> simp [hb] at h
    exact ⟨_, _, h, fun M w => ⟨_, by simp [binOp, Op.shift]; intro h'; simp [h'] at hb, int_repV _ _ _ _⟩⟩
  case shr =>
    simp only [binI] at h
    cases hb : decide (b < 0) <;> simp [hb] at h
    exact ⟨_, _, h, fun M w => ⟨_, by simp [binOp, Op.shift]; intro h'; simp [h'] at hb, int_repV _ _ _ _⟩⟩
  all_goals
    have hkk : k = k' := by simpa [isShift] using hk
    subst hkk
    simp only [binI] at h
  case quo =>
    cases hb : decide (b = 0) <;> simp [hb] at h
    exact ⟨_, _, h, fun M w => ⟨_, by simp [binOp, Op.intDiv]; intro h'; simp [h'] at hb, int_repV _ _ _ _⟩⟩
  case rem =>
    cases hb : decide (b = 0) <;> simp [hb] at h
    exact ⟨_, _, h, fun M w => ⟨_, by simp [binOp, Op.intDiv]; intro h'; simp [h'] at hb, int_repV _ _ _ _⟩⟩
  case add => exact ⟨_, _, h, fun M w => ⟨_, by simp [binOp, Op.intArith], int_repV _ _ _ _⟩⟩
  case sub => exact ⟨_, _, h, fun M w => ⟨_, by simp [binOp, Op.intArith], int_repV _ _ _ _⟩⟩
  case mul => exact ⟨_, _, h, fun M w => ⟨_, by simp [binOp, Op.intArith], int_repV _ _ _ _⟩⟩
  case and => exact ⟨_, _, h, fun M w => ⟨_, by simp [binOp, run_bits], int_repV _ _ _ _⟩⟩
  case or => exact ⟨_, _, h, fun M w => ⟨_, by simp [binOp, run_bits], int_repV _ _ _ _⟩⟩
  case xor => exact ⟨_, _, h, fun M w => ⟨_, by simp [binOp, run_bits], int_repV _ _ _ _⟩⟩
  case andNot => exact ⟨_, _, h, fun M w => ⟨_, by simp [binOp, run_bits], int_repV _ _ _ _⟩⟩
  case eql => exact ⟨_, _, h, fun M w => ⟨.bool (decide (a = b)), by simp only [binOp, Op.intCmp, ne_eq, not_true_eq_false, if_false, Sem.run_pure]; rfl, bool_repV M w _⟩⟩
  case neq => exact ⟨_, _, h, fun M w => ⟨.bool (!decide (a = b)), by simp only [binOp, Op.intCmp, ne_eq, not_true_eq_false, if_false, Sem.run_pure]; rfl, bool_repV M w _⟩⟩
  case lss => exact ⟨_, _, h, fun M w => ⟨.bool (decide (a < b)), by simp only [binOp, Op.intCmp, ne_eq, not_true_eq_false, if_false, Sem.run_pure], bool_repV M w _⟩⟩
  case leq => exact ⟨_, _, h, fun M w => ⟨.bool (decide (a ≤ b)), by simp only [binOp, Op.intCmp, ne_eq, not_true_eq_false, if_false, Sem.run_pure], bool_repV M w _⟩⟩
  case gtr => exact ⟨_, _, h, fun M w => ⟨.bool (decide (a > b)), by simp only [binOp, Op.intCmp, ne_eq, not_true_eq_false, if_false, Sem.run_pure], bool_repV M w _⟩⟩
  case geq => exact ⟨_, _, h, fun M w => ⟨.bool (decide (a ≥ b)), by simp only [binOp, Op.intCmp, ne_eq, not_true_eq_false, if_false, Sem.run_pure], bool_repV M w _⟩⟩

end Go.FK
