/- The interpreter: what a loaded function comes to over abstract values, operation by operation, in continuation form (so that the kernel can compute with values that are not known). -/
import Derived.Test.YtiacmfebhoodnaaFkA
import Derived.Orders
namespace Go.FK

/-- Several values of several types. -/
@[reducible] def TD : List Ty → Type
  | [] => Unit
  | t :: [] => t.D
  | t :: u :: ts => t.D × TD (u :: ts)

/-- A value with its type. -/
abbrev Dyn := (t : Ty) × t.D

inductive AV where
  | bad
  | und
  | nil
  | val (t : Ty) (x : t.D)
  | tup (l : List Dyn)
  | own (id : Nat)
  | ptr (id ix : Nat) (path : List Nat)
  | win (id lo n : Nat)
  | mem (t : Ty) (x : t.D)
  | fn (f : FuncId)

/-- An object of the call's own: a row of elements (a variable in memory: one element). -/
structure Ob where
  e : TypeId
  t : Ty
  l : List t.D

/-- What is known of a type: a slice's elements: their type and bytes. -/
structure TI where
  t : Ty
  el : TypeId
  eb : Nat

structure FS where
  ps : List Ty
  rs : List Ty
  f : TD ps → Option (TD rs)

/-- A parameter: data; a part of a row, to be written; a variable, to be written. -/
inductive PK where
  | val (t : Ty)
  | win (e : TypeId) (t : Ty)
  | obj (e : TypeId) (t : Ty)

def PK.ins : PK → List Ty
  | .val t => [t]
  | .win _ t => [.list t, .flt, .flt]
  | .obj _ t => [t]
def PK.outs : PK → List Ty
  | .val _ => []
  | .win _ t => [.list t]
  | .obj _ t => [t]
def PK.io : PK → Bool
  | .val _ => false
  | _ => true

structure FG where
  ps : List PK
  rs : List Ty
  f : TD (ps.flatMap PK.ins) → Option (TD (ps.flatMap PK.outs ++ rs))

/-- A function that hands over something new: a row, or a variable (bx). -/
structure FW where
  ps : List Ty
  e : TypeId
  t : Ty
  bx : Bool
  f : TD ps → Option (List t.D)

/-- How a point's state is told: objects (a variable or a row), slots. -/
inductive Kind where
  | val (t : Ty)
  | own (j : Nat)
  | ptr (j : Nat) (path : List Nat)
  | win (j : Nat)
  | fn (f : FuncId)

/-- io: the first objects are the caller's. -/
structure PSig where
  io : Nat
  objs : List (TypeId × Ty × Bool)
  slots : List (Tmp × Kind)

def Kind.tys : Kind → List Ty
  | .val t => [t]
  | .win _ => [.flt, .flt]
  | _ => []

def PSig.tys (s : PSig) : List Ty := s.objs.map (fun o => if o.2.2 then o.2.1 else .list o.2.1) ++ s.slots.flatMap fun k => k.2.tys

structure Env (X : Type) where
  ty : TypeId → Option TI
  fn : FuncId → Option FS
  fg : FuncId → Option FG
  fw : FuncId → Option FW
  pt : Nat → Option ((s : PSig) × (TD s.tys → Option X))

/-! ### Lists by place -/
def nthD {α : Type} (d : α) : List α → Nat → α
  | [], _ => d
  | x :: _, 0 => x
  | _ :: xs, n + 1 => nthD d xs n
def setN {α : Type} (v : α) : List α → Nat → List α
  | [], _ => []
  | _ :: xs, 0 => v :: xs
  | x :: xs, n + 1 => x :: setN v xs n
/-- A list's spine is computed before it is handed on. -/
def force {α R : Type} : List α → (List α → R) → R
  | [], k => k []
  | x :: xs, k => force xs fun ys => k (x :: ys)

theorem force_eq {α R : Type} : ∀ (l : List α) (k : List α → R), force l k = k l
  | [], _ => rfl
  | _ :: xs, k => force_eq xs _

/-! ### Data by paths -/
def fieldG : (t : Ty) → t.D → Nat → Option Dyn
  | .pair a _, x, 0 => some ⟨a, x.1⟩
  | .pair _ b, x, j + 1 => fieldG b x.2 j
  | .unit, _, _ => none
  | t, x, 0 => some ⟨t, x⟩
  | _, _, _ + 1 => none

/-- Where field j begins. -/
def offF : Ty → Nat → Nat
  | .pair a b, j + 1 => a.sz + offF b j
  | _, _ => 0

def getP : (path : List Nat) → (t : Ty) → t.D → Option Dyn
  | [], t, x => some ⟨t, x⟩
  | j :: p, .st t, x => match fieldG t x j with
    | some d => getP p d.1 d.2
    | none => none
  | _ :: _, _, _ => none

def castD (t t' : Ty) (x : t.D) : Option t'.D := if h : t = t' then some (h ▸ x) else none

def setF : (t : Ty) → t.D → Nat → ((u : Ty) → u.D → Option u.D) → Option t.D
  | .pair a _, x, 0, g => match g a x.1 with
    | some y => some (y, x.2)
    | none => none
  | .pair _ b, x, j + 1, g => match setF b x.2 j g with
    | some y => some (x.1, y)
    | none => none
  | .unit, _, _, _ => none
  | t, x, 0, g => g t x
  | _, _, _ + 1, _ => none

def setP : (path : List Nat) → Dyn → (t : Ty) → t.D → Option t.D
  | [], d, t, _ => castD d.1 t d.2
  | j :: p, d, .st t, x => setF t x j (setP p d)
  | _ :: _, _, _, _ => none

def offP : (path : List Nat) → Ty → Nat
  | [], _ => 0
  | j :: p, .st t => offF t j + (match fieldG t t.zero j with
    | some d => offP p d.1
    | none => 0)
  | _ :: _, _ => 0

/-! ### Values of several types -/
def decT : (ts : List Ty) → List Dyn → Option (TD ts)
  | [], [] => some ()
  | t :: [], d :: [] => castD d.1 t d.2
  | t :: u :: ts, d :: ds => match castD d.1 t d.2, decT (u :: ts) ds with
    | some x, some y => some (x, y)
    | _, _ => none
  | _, _ => none

def encT : (ts : List Ty) → TD ts → List Dyn
  | [], _ => []
  | t :: [], x => [⟨t, x⟩]
  | t :: u :: ts, x => ⟨t, x.1⟩ :: encT (u :: ts) x.2

/-! ### The state -/
structure St where
  fr : List AV
  obs : List (Option Ob)

abbrev Obs := Nat → Option Ob

def St.ob (s : St) : Obs := nthD none s.obs

def cv : Value → AV
  | .int k n => .val (.int k) n
  | .bool b => .val .bool b
  | .string s => .val .str s
  | .float .f64 b => .val .flt b
  | .slice none 0 0 => .nil
  | _ => .bad

def evA (fr : List AV) : Operand → AV
  | .tmp t => nthD .bad fr t
  | .const v => cv v
  | .func f => .fn f
  | .global _ => .bad

/-- An abstract value as data of a type. -/
def toDyn (t : Ty) : AV → Option Dyn
  | .val u x => some ⟨u, x⟩
  | .nil => match t with
    | .list u => if u.ok false then some ⟨.list u, []⟩ else none
    | _ => none
  | _ => none

def toDyns : List Ty → List AV → Option (List Dyn)
  | [], [] => some []
  | t :: ts, a :: as => match toDyn t a, toDyns ts as with
    | some d, some ds => some (d :: ds)
    | _, _ => none
  | _, _ => none

def resAV : List Dyn → AV
  | d :: [] => .val d.1 d.2
  | l => .tup l

/-! ### Numbers -/
def bitsI (op : BinOp) (k : IntKind) (x y : Int) : Int :=
  let a := BitVec.ofInt k.bits x
  let b := BitVec.ofInt k.bits y
  match op with
  | .and => k.wrap (a &&& b).toNat
  | .or => k.wrap (a ||| b).toNat
  | .xor => k.wrap (a ^^^ b).toNat
  | _ => k.wrap (a &&& ~~~b).toNat

def binI {R : Type} (op : BinOp) (k : IntKind) (a b : Int) (K : AV → Option R) : Option R :=
  match op with
  | .add => K (.val (.int k) (k.wrap (a + b)))
  | .sub => K (.val (.int k) (k.wrap (a - b)))
  | .mul => K (.val (.int k) (k.wrap (a * b)))
  | .quo => bif decide (b = 0) then none else K (.val (.int k) (k.wrap (a.tdiv b)))
  | .rem => bif decide (b = 0) then none else K (.val (.int k) (a.tmod b))
  | .and => K (.val (.int k) (bitsI .and k a b))
  | .or => K (.val (.int k) (bitsI .or k a b))
  | .xor => K (.val (.int k) (bitsI .xor k a b))
  | .andNot => K (.val (.int k) (bitsI .andNot k a b))
  | .shl => bif decide (b < 0) then none else K (.val (.int k) (k.wrap (a * 2 ^ min b.toNat k.bits)))
  | .shr => bif decide (b < 0) then none else K (.val (.int k) (a.fdiv (2 ^ min b.toNat k.bits)))
  | .eql => K (.val .bool (decide (a = b)))
  | .neq => K (.val .bool (!decide (a = b)))
  | .lss => K (.val .bool (decide (a < b)))
  | .leq => K (.val .bool (decide (a ≤ b)))
  | .gtr => K (.val .bool (decide (a > b)))
  | .geq => K (.val .bool (decide (a ≥ b)))

def binS {R : Type} (op : BinOp) (a b : ByteArray) (K : AV → Option R) : Option R :=
  match op with
  | .add => bif decide (((a.size + b.size : Nat) : Int) > IntKind.i64.max) then none else K (.val .str (a ++ b))
  | .eql => K (.val .bool (a.toList == b.toList))
  | .neq => K (.val .bool (!(a.toList == b.toList)))
  | .lss => K (.val .bool (Op.bytesLess a.toList b.toList))
  | .gtr => K (.val .bool (!(Op.bytesLess a.toList b.toList || a.toList == b.toList)))
  | .leq => K (.val .bool (Op.bytesLess a.toList b.toList || a.toList == b.toList))
  | .geq => K (.val .bool (!Op.bytesLess a.toList b.toList))
  | _ => none

def isShift : BinOp → Bool
  | .shl | .shr => true
  | _ => false

def isBool (t : Option TI) : Bool := match t with
  | some ⟨.bool, _, _⟩ => true
  | _ => false

def binK {R : Type} (ti : Option TI) (op : BinOp) (x y : AV) (K : AV → Option R) : Option R :=
  match x, y with
  | .val (.int k) a, .val (.int k') b => if isShift op || k == k' then binI op k a b K else none
  | .val .str a, .val .str b => binS op a b K
  | .val .bool a, .val .bool b => if isBool ti then (match op with
    | .eql => K (.val .bool (a == b))
    | .neq => K (.val .bool (!(a == b)))
    | _ => none) else none
  | _, _ => none

def unK {R : Type} (op : UnOp) (x : AV) (K : AV → Option R) : Option R :=
  match op, x with
  | .neg, .val (.int k) a => K (.val (.int k) (k.wrap (0 - a)))
  | .xor, .val (.int k) a => K (.val (.int k) (bitsI .xor k (if k.signed then -1 else k.max) a))
  | .not, .val .bool b => K (.val .bool (!b))
  | _, _ => none

def convK {R : Type} (s d : Option TI) (x : AV) (K : AV → Option R) : Option R :=
  match s, d, x with
  | some ⟨.int _, _, _⟩, some ⟨.int k, _, _⟩, .val (.int _) n => K (.val (.int k) (k.wrap n))
  | some ⟨.str, _, _⟩, some ⟨.str, _, _⟩, .val .str s => K (.val .str s)
  | _, _, _ => none

def btI (s : ByteArray) (i : Int) : Int := if h : i.toNat < s.size then ((s[i.toNat]'h).toNat : Int) else 0

def isTy (ti : Option TI) (t : Ty) : Bool := match ti with
  | some i => decide (i.t = t)
  | none => false

/-- Parts laid over data: a struct's fields. -/
def setParts (t : Ty) (x : t.D) : List (Nat × AV) → Option t.D
  | [] => some x
  | (j, a) :: ps => match setF t x j (fun u _ => match toDyn u a with
      | some d => castD d.1 u d.2
      | none => none) with
    | some y => setParts t y ps
    | none => none

/-- Parts laid over a row. -/
def setElems (t : Ty) (l : List t.D) : List (Nat × AV) → Option (List t.D)
  | [] => some l
  | (j, a) :: ps => match toDyn t a with
    | some d => match castD d.1 t d.2 with
      | some y => if j < l.length then setElems t (setN y l j) ps else none
      | none => none
    | none => none

def sameOp : Operand → Operand → Bool
  | .tmp a, .tmp b => a == b
  | .const (.int k a), .const (.int k' b) => k == k' && a == b
  | _, _ => false

/-- The bounds of a cut. -/
def loI {R : Type} (lo : Option AV) (K : Int → Option R) : Option R :=
  match lo with
  | none => K 0
  | some (.val (.int _) n) => K n
  | some _ => none
def hiI {R : Type} (len : Int) (hi : Option AV) (K : Int → Option R) : Option R :=
  match hi with
  | none => K len
  | some (.val (.int _) n) => K n
  | some _ => none

def cutK {R : Type} (len : Int) (lo hi mx : Option AV) (K : Int → Int → Option R) : Option R :=
  loI lo fun l => hiI len hi fun h =>
    match mx with
    | none => bif decide (0 ≤ l) && decide (l ≤ h) && decide (h ≤ len) then K l h else none
    | some (.val (.int _) m) => match hi with
      | none => none
      | some _ => bif decide (0 ≤ l) && decide (l ≤ h) && decide (h ≤ m) && decide (m ≤ len) then K l h else none
    | some _ => none

/-- An operation that writes nothing that is there: its value, and a new object (whose number is nid). cons: its value is read as data in this statement. -/
def freeK {X R : Type} (E : Env X) (nid : Nat) (cons : Bool) (obs : Obs) (ρ : Operand → AV) (o : Op) (K : AV → Option Ob → Option R) : Option R :=
  match o with
  | .move x | .assign x => K (ρ x) none
  | .pick c a b => match ρ c with
    | .val .bool t => bif t then K (ρ a) none else K (ρ b) none
    | _ => none
  | .alloc T => match E.ty T with
    | some i => if i.t.sz = 0 then none else K (.ptr nid 0 []) (some ⟨T, i.t, [i.t.zero]⟩)
    | none => none
  | .box T x => match E.ty T with
    | some i => if i.t.sz = 0 then none else match toDyn i.t (ρ x) with
      | some d => match castD d.1 i.t d.2 with
        | some y => K (.ptr nid 0 []) (some ⟨T, i.t, [y]⟩)
        | none => none
      | none => none
    | none => none
  | .build T parts => match E.ty T with
    | some ⟨.st t, _, _⟩ => match setParts t t.zero (parts.toList.map fun p => (p.1, ρ p.2)) with
      | some y => K (.val (.st t) y) none
      | none => none
    | _ => none
  | .buildSlice T len parts => match E.ty T with
    | some ⟨.list t, el, _⟩ => if t.sz = 0 || 16777216 < len * t.sz then none else
      match setElems t (List.replicate len t.zero) (parts.toList.map fun p => (p.1, ρ p.2)) with
      | some l => bif cons then K (.val (.list t) l) none else K (.own nid) (some ⟨el, t, l⟩)
      | none => none
    | _ => none
  | .load T a => match ρ a with
    | .ptr id ix path => match obs id with
      | some ob => match getP path ob.t (nthD ob.t.zero ob.l ix) with
        | some d => if isTy (E.ty T) d.1 then K (.val d.1 d.2) none else none
        | none => none
      | none => none
    | .mem t x => if isTy (E.ty T) t then K (.val t x) none else none
    | _ => none
  | .nilCheck x => match ρ x with
    | .ptr id ix path => match obs id with
      | some _ => K (.ptr id ix path) none
      | none => none
    | .mem t x => K (.mem t x) none
    | _ => none
  | .binOp op T x y _ => binK (E.ty T) op (ρ x) (ρ y) fun v => K v none
  | .unOp op _ x => unK op (ρ x) fun v => K v none
  | .convert s d x => convK (E.ty s) (E.ty d) (ρ x) fun v => K v none
  | .makeSlice T l c => if sameOp l c then
      match E.ty T, ρ l with
      | some ⟨.list t, el, eb⟩, .val (.int .i64) n => if t.sz = 0 then none else
        bif decide (0 ≤ n) && decide (n * eb ≤ 281474976710656) && decide (n ≤ 9223372036854775807) then
          bif cons then K (.val (.list t) (List.replicate n.toNat t.zero)) none else K (.own nid) (some ⟨el, t, List.replicate n.toNat t.zero⟩)
        else none
      | _, _ => none
    else none
  | .slice T x lo hi mx => match E.ty T, ρ x with
    | some ⟨.list t, _, _⟩, .val (.list u) (l : List u.D) => if t = u then
        cutK (l.length : Int) (lo.map ρ) (hi.map ρ) (mx.map ρ) fun a b => K (.val (.list u) ((l.take b.toNat).drop a.toNat)) none
      else none
    | some ⟨.list t, _, _⟩, .own id => match obs id, mx with
      | some ob, none => if ob.t = t then cutK (ob.l.length : Int) (lo.map ρ) (hi.map ρ) none fun a b => bif decide (a < b) then K (.win id a.toNat (b - a).toNat) none else none else none
      | _, _ => none
    | some ⟨.str, _, _⟩, .val .str s => match mx with
      | none => cutK (s.size : Int) (lo.map ρ) (hi.map ρ) none fun a b => K (.val .str (s.extract a.toNat b.toNat)) none
      | some _ => none
    | _, _ => none
  | .fieldAddr T x j => match E.ty T, ρ x with
    | some ⟨.st t, _, _⟩, .ptr id ix path => match obs id with
      | some ob => match getP path ob.t (nthD ob.t.zero ob.l ix) with
        | some d => if d.1 = .st t then match fieldG t t.zero j with
            | some f => if f.1.sz = 0 then none else K (.ptr id ix (path ++ [j])) none
            | none => none
          else none
        | none => none
      | none => none
    | some ⟨.st t, _, _⟩, .mem (.st u) y => if t = u then match fieldG u y j with
        | some f => if f.1.sz = 0 then none else K (.mem f.1 f.2) none
        | none => none
      else none
    | _, _ => none
  | .field T x j => match E.ty T, ρ x with
    | some ⟨.st t, _, _⟩, .val (.st u) y => if t = u then match fieldG u y j with
        | some f => if f.1.sz = 0 then none else K (.val f.1 f.2) none
        | none => none
      else none
    | _, _ => none
  | .indexAddr T x i => match E.ty T, ρ x, ρ i with
    | some ⟨.list t, _, _⟩, .own id, .val (.int _) n => match obs id with
      | some ob => if ob.t = t then
          bif decide (0 ≤ n) && decide (n < (ob.l.length : Int)) then K (.ptr id n.toNat []) none else none
        else none
      | none => none
    | some ⟨.list t, _, _⟩, .win id lo m, .val (.int _) n => match obs id with
      | some ob => if ob.t = t then
          bif decide (0 ≤ n) && decide (n < (m : Int)) then K (.ptr id (lo + n.toNat) []) none else none
        else none
      | none => none
    | some ⟨.list t, _, _⟩, .val (.list u) (l : List u.D), .val (.int _) n => if t = u then
        bif decide (0 ≤ n) && decide (n < (l.length : Int)) then K (.mem u (nthD u.zero l n.toNat)) none else none
      else none
    | _, _, _ => none
  | .index T x i => match E.ty T, ρ x, ρ i with
    | some ⟨.str, _, _⟩, .val .str s, .val (.int _) n =>
      bif decide (0 ≤ n) && decide (n < (s.size : Int)) then K (.val (.int .u8) (btI s n)) none else none
    | _, _, _ => none
  | .extract x j => match ρ x with
    | .tup l => match l[j]? with
      | some d => K (.val d.1 d.2) none
      | none => none
    | _ => none
  | .call c => match c.callee with
    | .value f => match ρ f with
      | .fn g => match E.fn g with
        | some fs => match toDyns fs.ps (c.args.toList.map ρ) with
          | some ds => match decT fs.ps ds with
            | some x => (fs.f x).bind fun r => K (resAV (encT fs.rs r)) none
            | none => none
          | none => none
        | none => match E.fw g with
          | some fw => match toDyns fw.ps (c.args.toList.map ρ) with
            | some ds => match decT fw.ps ds with
              | some x => (fw.f x).bind fun r => if fw.bx then K (.ptr nid 0 []) (some ⟨fw.e, fw.t, r⟩) else
                  bif cons then K (.val (.list fw.t) r) none else K (.own nid) (some ⟨fw.e, fw.t, r⟩)
              | none => none
            | none => none
          | none => none
      | _ => none
    | .builtin .len => match c.args.toList.map ρ, c.argTypes.toList.map E.ty with
      | [.val .str s], [some ⟨.str, _, _⟩] => K (.val (.int .i64) (s.size : Int)) none
      | [.val (.list u) (l : List u.D)], [some ⟨.list _, _, _⟩] => K (.val (.int .i64) (l.length : Int)) none
      | [.nil], [some ⟨.list _, _, _⟩] => K (.val (.int .i64) (0 : Int)) none
      | [.win id _ m], [some ⟨.list _, _, _⟩] => match obs id with
        | some _ => K (.val (.int .i64) (m : Int)) none
        | none => none
      | [.own id], [some ⟨.list _, _, _⟩] => match obs id with
        | some ob => K (.val (.int .i64) (ob.l.length : Int)) none
        | none => none
      | _, _ => none
    | _ => none
  | _ => none

def isEff {X : Type} (E : Env X) : Op → Bool
  | .store .. => true
  | .call { callee := .builtin .append, .. } => true
  | .call { callee := .builtin .copy, .. } => true
  | .call { callee := .value (.func f), .. } => match E.fg f with
    | some _ => true
    | none => false
  | _ => false

/-- The arguments of a call that writes: the data, the objects. -/
def argK (st : List (Option Ob)) : PK → AV → Option (List Dyn × List Nat)
  | .val t, a => match toDyn t a with
    | some d => some ([d], [])
    | none => none
  | .win e t, .win id lo n => match nthD none st id with
    | some ob => if ob.e = e && decide (ob.t = t) then some ([⟨.list ob.t, ob.l⟩, ⟨.flt, (lo : Nat)⟩, ⟨.flt, (n : Nat)⟩], [id]) else none
    | none => none
  | .obj e t, .ptr id 0 [] => match nthD none st id with
    | some ⟨e', t', [x]⟩ => if e' = e && decide (t' = t) then some ([⟨t', x⟩], [id]) else none
    | _ => none
  | _, _ => none

def inK (st : List (Option Ob)) : List PK → List AV → Option (List Dyn × List Nat)
  | [], [] => some ([], [])
  | p :: ps, a :: as => match argK st p a, inK st ps as with
    | some r, some q => some (r.1 ++ q.1, r.2 ++ q.2)
    | _, _ => none
  | _, _ => none

def PK.ob : PK → Dyn → Option Ob
  | .win e _, ⟨.list u, l⟩ => some ⟨e, u, l⟩
  | .obj e _, d => some ⟨e, d.1, [d.2]⟩
  | _, _ => none

/-- The parameter that is written. -/
def ioP : List PK → Option PK
  | [] => none
  | .val _ :: ps => ioP ps
  | p :: _ => some p

def hasN (t : Nat) : List Nat → Bool
  | [] => false
  | u :: us => t == u || hasN t us

def distinct : List Nat → Bool
  | [] => true
  | x :: xs => !hasN x xs && distinct xs

/-- An operation that writes: its value and the objects behind it. -/
def effK {X R : Type} (E : Env X) (cons : Bool) (st : List (Option Ob)) (ρ : Operand → AV) (o : Op) (K : AV → List (Option Ob) → Option R) : Option R :=
  match o with
  | .store T a x => match ρ a with
    | .ptr id ix path => match nthD none st id with
      | some ob => match getP path ob.t (nthD ob.t.zero ob.l ix) with
        | some d => if isTy (E.ty T) d.1 then match toDyn d.1 (ρ x) with
            | some v => match setP path v ob.t (nthD ob.t.zero ob.l ix) with
              | some y => K .bad (setN (some ⟨ob.e, ob.t, setN y ob.l ix⟩) st id ++ [none])
              | none => none
            | none => none
          else none
        | none => none
      | none => none
    | _ => none
  | .call c => match c.callee with
    | .value f => match ρ f with
      | .fn g => match E.fg g with
        | some fg => match inK st fg.ps (c.args.toList.map ρ), ioP fg.ps with
          | some (ds, [id]), some p => match decT (fg.ps.flatMap PK.ins) ds with
            | some x => (fg.f x).bind fun r => match encT (fg.ps.flatMap PK.outs ++ fg.rs) r with
              | o :: rds => match p.ob o, nthD none st id with
                | some ob, some ob0 => if ob.e = ob0.e && decide (ob.t = ob0.t) then K (resAV rds) (setN (some ob) st id ++ [none]) else none
                | _, _ => none
              | [] => none
            | none => none
          | _, _ => none
        | none => none
      | _ => none
    | _ => match c.callee, c.args.toList.map ρ, c.argTypes.toList.map E.ty with
    | .builtin .append, [s, x], [some ⟨.list t, el, eb⟩, some ⟨.list t', _, _⟩] => if t.sz = 0 || !decide (t = t') then none else
      match toDyn (.list t) x with
      | some ⟨.list u, (m : List u.D)⟩ => match castD (.list u) (.list t) m with
        | some (m : List t.D) => match s with
          | .nil => appK (m.length : Int) eb (bif cons then K (.val (.list t) m) (st ++ [none]) else K (.own st.length) (st ++ [some ⟨el, t, m⟩]))
          | .own id => match nthD none st id with
            | some ob => match castD (.list ob.t) (.list t) ob.l with
              | some (l : List t.D) => if ob.e = el then appK ((l.length : Int) + m.length) eb (bif cons then K (.val (.list t) (l ++ m)) (setN none st id ++ [none])
                  else K (.own st.length) (setN none st id ++ [some ⟨el, t, l ++ m⟩])) else none
              | none => none
            | none => none
          | _ => none
        | none => none
      | _ => none
    | .builtin .copy, [.own id, x], [some ⟨.list t, _, _⟩, some ⟨.list t', _, _⟩] => if t.sz = 1 && decide (t = t') then
        match nthD none st id, toDyn (.list t) x with
        | some ob, some ⟨.list u, (m : List u.D)⟩ => match castD (.list u) (.list ob.t) m with
          | some (m : List ob.t.D) => if ob.t = t then K (.val (.int .i64) ((min m.length ob.l.length : Nat) : Int)) (setN (some ⟨ob.e, ob.t, m.take ob.l.length ++ ob.l.drop m.length⟩) st id ++ [none]) else none
          | none => none
        | _, _ => none
      else none
    | _, _, _ => none
  | _ => none
where
  appK {R : Type} (n : Int) (eb : Nat) (k : Option R) : Option R := bif decide (n * eb ≤ 140737488355328) && decide (n ≤ 9223372036854775807) then k else none

/-! ### Statements -/
def opTmps : Op → List Tmp := fun o => o.operands.toList.filterMap fun
  | .tmp t => some t
  | _ => none

def tmpsOf (l : List Operand) : List Tmp := l.filterMap fun
  | .tmp t => some t
  | _ => none

/-- The temporaries that an operation reads as data (an object that is read so is written no more). -/
def ioArgs : List PK → List Operand → List Tmp
  | p :: ps, x :: xs => (bif p.io then tmpsOf [x] else []) ++ ioArgs ps xs
  | _, _ => []
def valArgs : List PK → List Operand → List Tmp
  | p :: ps, x :: xs => (bif p.io then [] else tmpsOf [x]) ++ valArgs ps xs
  | _, _ => []

def directCons {X : Type} (E : Env X) : Op → List Tmp
  | .box _ x => tmpsOf [x]
  | .build _ ps => tmpsOf (ps.toList.map (·.2))
  | .buildSlice _ _ ps => tmpsOf (ps.toList.map (·.2))
  | .store _ _ x => tmpsOf [x]
  | .call c => match c.callee with
    | .value (.func f) => match E.fg f with
      | some fg => valArgs fg.ps c.args.toList
      | none => tmpsOf c.args.toList
    | .builtin .append => tmpsOf (c.args.toList.drop 1)
    | .builtin .copy => tmpsOf (c.args.toList.drop 1)
    | .builtin _ => []
    | _ => tmpsOf c.args.toList
  | _ => []

def hasT (t : Tmp) : List Tmp → Bool
  | [] => false
  | u :: us => t == u || hasT t us

/-- What is handed to be written. -/
def ioUse {X : Type} (E : Env X) : List Oper → List Tmp
  | [] => []
  | o :: rest => (match o.op with
    | .call { callee := .value (.func f), args, .. } => match E.fg f with
      | some fg => ioArgs fg.ps args.toList
      | none => []
    | _ => []) ++ ioUse E rest

def consOps {X : Type} (E : Env X) : List Oper → List Tmp
  | [] => []
  | o :: rest => let c := consOps E rest
    directCons E o.op ++ (match o.op, o.dst with
      | .slice _ x _ _ _, some d => bif hasT d (ioUse E rest) then [] else tmpsOf [x]
      | .slice _ x _ _ _, none => tmpsOf [x]
      | _, _ => []) ++ (match o.op, o.dst with
      | .move (.tmp t), some d => bif hasT d c then [t] else []
      | .pick _ a b, some d => bif hasT d c then tmpsOf [a, b] else []
      | _, _ => []) ++ c

/-- An object becomes data. -/
def frzA (id : Nat) (ob : Ob) : AV → AV
  | .own i => if i = id then .val (.list ob.t) ob.l else .own i
  | a => a

def freeze (s : St) : List Tmp → St
  | [] => s
  | t :: ts => match nthD .bad s.fr t with
    | .own id => match nthD none s.obs id with
      | some ob => freeze ⟨s.fr.map (frzA id ob), setN none s.obs id⟩ ts
      | none => freeze s ts
    | _ => freeze s ts

/-- The operations ahead of each, as bits. -/
def befores : List Oper → List Nat → List Nat
  | [], acc => acc
  | o :: rest, acc => befores rest (acc ++ [o.after.toList.foldl (fun s e => if Region.binds .any e then s ||| 2 ^ e.on ||| nthD 0 acc e.on else s) 0])

def readsOf (ops : List Oper) (o : Oper) : List Tmp :=
  opTmps o.op ++ (match o.guard with
    | some (g, _) => (match ops[g]? with
      | some p => p.dst.toList
      | none => [])
    | none => [])

/-- The number of operations ahead of the first that writes. -/
def freeLen {X : Type} (E : Env X) : List Oper → Nat
  | [] => 0
  | o :: rest => if isEff E o.op then 0 else freeLen E rest + 1

def allBelow (p : Nat → Bool) : Nat → Bool
  | 0 => true
  | n + 1 => p n && allBelow p n

/-- Operations that look at no memory. -/
def pureB : Op → Bool
  | .move _ | .assign _ | .extract _ _ => true
  | _ => false

def selB : Op → Bool
  | .select _ _ => true
  | _ => false

/-- A statement whose order is open may be read in the text's order. -/
def drawOk {X : Type} (E : Env X) (ops : List Oper) : Bool :=
  let b := befores ops []
  let m := freeLen E ops
  let n := ops.length
  allBelow (fun j => match ops[j]? with
    | none => false
    | some o => !selB o.op && (o.after.toList.all fun e => !Region.binds .any e || e.on < j) &&
      (if m ≤ j then allBelow (fun i => (nthD 0 b j).testBit i || (match ops[i]? with
        | none => false
        | some p => pureB p.op)) j else true) &&
      (if pureB o.op then allBelow (fun i => i == j || (nthD 0 b j).testBit i || (match ops[i]? with
        | none => false
        | some p => (p.after.toList.any fun e => Region.binds .any e && e.on == j) || o.apart ops.toArray p)) n else true)) n &&
  allBelow (fun j => match ops[j]? with
    | none => false
    | some o =>
      allBelow (fun i => match ops[i]? with
        | none => false
        | some p => match p.dst with
          | none => true
          | some d => (i == j || o.dst != some d) && (!hasT d (readsOf ops o) || (decide (i < j) && (nthD 0 b j).testBit i) || (decide (j < i) && (nthD 0 b i).testBit j))) m) m

def put (s : List AV) (d : Option Tmp) (v : AV) : List AV := match d with
  | some t => setN v s t
  | none => s

section
variable {X R : Type} (E : Env X)

/-- The operations in the text's order. bits: the ones ahead of each, where the order is open; n0: the objects' number at the start. -/
def runOps (all : List Oper) (n0 : Nat) : List Oper → List (Option Nat) → St → (St → Option R) → Option R
  | [], _, s, K => K s
  | o :: rest, bs, s, K =>
    let go (s : St) : Option R :=
      bif isEff E o.op then effK E (match o.dst with | some d => hasT d (consOps E rest) | none => false) s.obs (evA s.fr) o.op fun v obs =>
        force (put s.fr o.dst v) fun fr => force obs fun obs => runOps all n0 rest (bs.drop 1) ⟨fr, obs⟩ K
      else freeK E s.obs.length (match o.dst with | some d => hasT d (consOps E rest) | none => false)
        (match bs with
          | some b :: _ => fun id => bif decide (id < n0) || b.testBit (id - n0) then s.ob id else none
          | _ => s.ob) (evA s.fr) o.op fun v ob =>
        force (put s.fr o.dst v) fun fr => force (s.obs ++ [ob]) fun obs => runOps all n0 rest (bs.drop 1) ⟨fr, obs⟩ K
    let skip (s : St) : Option R :=
      force (put s.fr o.dst .und) fun fr => force (s.obs ++ [none]) fun obs => runOps all n0 rest (bs.drop 1) ⟨fr, obs⟩ K
    match o.guard with
    | none => go s
    | some (j, want) => match all[j]? with
      | none => none
      | some p => match p.dst with
        | none => none
        | some d => match nthD .bad s.fr d with
          | .val .bool b =>
            bif want then (bif b then force (setN (.val .bool true) s.fr d) fun fr => go ⟨fr, s.obs⟩ else force (setN (.val .bool false) s.fr d) fun fr => skip ⟨fr, s.obs⟩)
            else (bif b then force (setN (.val .bool true) s.fr d) fun fr => skip ⟨fr, s.obs⟩ else force (setN (.val .bool false) s.fr d) fun fr => go ⟨fr, s.obs⟩)
          | .und => skip s
          | _ => none

def regionK (ops : List Oper) (draw : Bool) (s : St) (K : St → Option R) : Option R :=
  let s1 := freeze s (consOps E ops)
  force s1.fr fun fr => force s1.obs fun obs =>
    bif draw then bif drawOk E ops then runOps E ops obs.length ops ((befores ops []).map some) ⟨fr, obs⟩ K else none
    else runOps E ops obs.length ops [] ⟨fr, obs⟩ K

end
end Go.FK
