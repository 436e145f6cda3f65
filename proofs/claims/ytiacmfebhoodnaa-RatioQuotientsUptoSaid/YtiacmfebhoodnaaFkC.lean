/- The interpreter of code: sequences, branches, loops by their points; a whole function. -/
import Derived.Test.YtiacmfebhoodnaaFkB
namespace Go.FK

/-! ### A point's state -/
/-- The object that a point's j-th object is, by a slot that leads to it. -/
def idOf (fr : List AV) (j : Nat) : List (Tmp × Kind) → Option Nat
  | [] => none
  | (t, .own i) :: ks => if i = j then (match nthD .bad fr t with
      | .own id => some id
      | _ => none) else idOf fr j ks
  | (t, .ptr i _) :: ks => if i = j then (match nthD .bad fr t with
      | .ptr id _ _ => some id
      | _ => none) else idOf fr j ks
  | (t, .win i) :: ks => if i = j then (match nthD .bad fr t with
      | .win id _ _ => some id
      | _ => none) else idOf fr j ks
  | _ :: ks => idOf fr j ks

def packObjs (s : St) (io : Nat) (slots : List (Tmp × Kind)) : List (TypeId × Ty × Bool) → Nat → List Nat → List Dyn → Option (List Nat × List Dyn)
  | [], _, ids, ds => some (ids, ds)
  | (e, t, bx) :: os, j, ids, ds => match (bif decide (j < io) then some j else idOf s.fr j slots) with
    | none => none
    | some id => if hasN id ids then none else match nthD none s.obs id with
      | none => none
      | some ob => if ob.e = e && decide (ob.t = t) then
          (if bx then (match ob.l with
            | [x] => packObjs s io slots os (j + 1) (ids ++ [id]) (ds ++ [⟨ob.t, x⟩])
            | _ => none)
          else packObjs s io slots os (j + 1) (ids ++ [id]) (ds ++ [⟨.list ob.t, ob.l⟩])) else none

def eqPath : List Nat → List Nat → Bool
  | [], [] => true
  | a :: as, b :: bs => a == b && eqPath as bs
  | _, _ => false

def packSlots (s : St) (ids : List Nat) : List (Tmp × Kind) → Option (List Dyn)
  | [] => some []
  | (t, k) :: ks => match k, nthD .bad s.fr t with
    | .val ty, av => match toDyn ty av, packSlots s ids ks with
      | some d, some ds => some (d :: ds)
      | _, _ => none
    | .own j, .own id => if ids[j]? = some id then packSlots s ids ks else none
    | .ptr j path, .ptr id 0 path' => if ids[j]? = some id && eqPath path path' then packSlots s ids ks else none
    | .win j, .win id lo n => if ids[j]? = some id then (match packSlots s ids ks with
      | some ds => some (⟨.flt, (lo : Nat)⟩ :: ⟨.flt, (n : Nat)⟩ :: ds)
      | none => none) else none
    | .fn f, .fn g => if f = g then packSlots s ids ks else none
    | _, _ => none

def pack (s : St) (sig : PSig) : Option (List Dyn) :=
  match packObjs s sig.io sig.slots sig.objs 0 [] [] with
  | none => none
  | some (ids, ds) => match packSlots s ids sig.slots with
    | none => none
    | some es => some (ds ++ es)

def unObjs : List (TypeId × Ty × Bool) → List Dyn → List (Option Ob) × List Dyn
  | [], ds => ([], ds)
  | (e, _, true) :: os, d :: ds => let r := unObjs os ds; (some ⟨e, d.1, [d.2]⟩ :: r.1, r.2)
  | (e, _, false) :: os, ⟨.list u, l⟩ :: ds => let r := unObjs os ds; (some ⟨e, u, l⟩ :: r.1, r.2)
  | _, ds => ([], ds)

def unSlots (fr : List AV) : List (Tmp × Kind) → List Dyn → List AV
  | [], _ => fr
  | (t, .val _) :: ks, d :: ds => unSlots (setN (.val d.1 d.2) fr t) ks ds
  | (_, .val _) :: _, [] => fr
  | (t, .own j) :: ks, ds => unSlots (setN (.own j) fr t) ks ds
  | (t, .ptr j p) :: ks, ds => unSlots (setN (.ptr j 0 p) fr t) ks ds
  | (t, .win j) :: ks, ⟨.flt, lo⟩ :: ⟨.flt, n⟩ :: ds => unSlots (setN (.win j lo n) fr t) ks ds
  | (_, .win _) :: _, _ => fr
  | (t, .fn f) :: ks, ds => unSlots (setN (.fn f) fr t) ks ds

def blank : Nat → List AV
  | 0 => []
  | n + 1 => .bad :: blank n

def unpack (sig : PSig) (n : Nat) (ds : List Dyn) : St :=
  let r := unObjs sig.objs ds
  ⟨unSlots (blank n) sig.slots r.2, r.1⟩

/-! ### Code -/
section
variable {X : Type} (E : Env X)

def pointK (p : Nat) (s : St) : Option X :=
  match E.pt p with
  | none => none
  | some ⟨sig, f⟩ => match pack s sig with
    | none => none
    | some ds => match decT sig.tys ds with
      | none => none
      | some x => f x

def blockK (id : Nat) (K : Exit → St → Option X) : Exit → St → Option X
  | .exit j, s => bif j == id then K .normal s else K (.exit j) s
  | e, s => K e s

def loopK (bid : Nat) (K : Exit → St → Option X) : Exit → St → Option X
  | .normal, s => pointK E (2 * bid) s
  | e, s => K e s

def seqK (f : St → Option X) (K : Exit → St → Option X) : Exit → St → Option X
  | .normal, s => f s
  | e, s => K e s

def codeK : (bid : Nat) → Code → St → (Exit → St → Option X) → Option X
  | _, .skip, s, K => K .normal s
  | _, .region r ops draw, s, K => match E.pt (2 * r + 1) with
    | some _ => pointK E (2 * r + 1) s
    | none => regionK E ops.toList draw s fun s => K .normal s
  | bid, .seq a b, s, K => codeK bid a s (seqK (fun s => codeK bid b s K) K)
  | bid, .cond c t e, s, K => match evA s.fr c with
    | .val .bool b => bif b then codeK bid t s K else codeK bid e s K
    | _ => none
  | _, .block id c, s, K => codeK id c s (blockK id K)
  | bid, .loop _, s, _ => pointK E (2 * bid) s
  | _, .exit id, s, K => K (.exit id) s
  | _, .ret, s, K => K .ret s
  | _, _, _, _ => none

def hasPt (p : Nat) : (bid : Nat) → Code → Bool
  | _, .region r _ _ => p == 2 * r + 1
  | bid, .seq a b => hasPt p bid a || hasPt p bid b
  | bid, .cond _ t e => hasPt p bid t || hasPt p bid e
  | _, .block id c => hasPt p id c
  | bid, .loop c => p == 2 * bid || hasPt p bid c
  | _, _ => false

/-- From a point on. -/
def fromK (p : Nat) : (bid : Nat) → Code → St → (Exit → St → Option X) → Option X
  | _, .region r ops draw, s, K => bif p == 2 * r + 1 then regionK E ops.toList draw s fun s => K .normal s else none
  | bid, .seq a b, s, K => bif hasPt p bid a then fromK p bid a s (seqK (fun s => codeK E bid b s K) K) else fromK p bid b s K
  | bid, .cond _ t e, s, K => bif hasPt p bid t then fromK p bid t s K else fromK p bid e s K
  | _, .block id c, s, K => fromK p id c s (blockK id K)
  | bid, .loop c, s, K => bif p == 2 * bid then codeK E bid c s (loopK E bid K) else fromK p bid c s (loopK E bid K)
  | _, _, _, _ => none
end

/-! ### A function -/
def toDynO (s : St) : AV → Option Dyn
  | .val t x => some ⟨t, x⟩
  | .own id => match nthD none s.obs id with
    | some ob => some ⟨.list ob.t, ob.l⟩
    | none => none
  | _ => none

def resultsK (tyof : TypeId → Option TI) (s : St) : List Ty → List ResultVar → Option (List Dyn)
  | [], [] => some []
  | t :: ts, .tmp u :: rs => match (match nthD .bad s.fr u with
      | .nil => toDyn t .nil
      | a => toDynO s a), resultsK tyof s ts rs with
    | some d, some ds => some (d :: ds)
    | _, _ => none
  | _ :: ts, .cell a T :: rs => match nthD .bad s.fr a with
    | .ptr id 0 [] => match nthD none s.obs id with
      | some ob => match ob.l with
        | [x] => if isTy (tyof T) ob.t then match resultsK tyof s ts rs with
            | some ds => some (⟨ob.t, x⟩ :: ds)
            | none => none
          else none
        | _ => none
      | none => none
    | _ => none
  | _, _ => none

def endK (tyof : TypeId → Option TI) (rv : List ResultVar) (rs : List Ty) : Exit → St → Option (TD rs)
  | .normal, s | .ret, s => match resultsK tyof s rs rv with
    | some ds => decT rs ds
    | none => none
  | _, _ => none

def entry (n : Nat) (ds : List Dyn) : St := ⟨ds.map (fun d => AV.val d.1 d.2) ++ blank (n - ds.length), []⟩

def fnK {rs : List Ty} (E : Env (TD rs)) (n : Nat) (rv : List ResultVar) (c : Code) (ds : List Dyn) : Option (TD rs) :=
  codeK E 0 c (entry n ds) (endK E.ty rv rs)

def fnFrom {rs : List Ty} (E : Env (TD rs)) (n : Nat) (rv : List ResultVar) (c : Code) (p : Nat) (sig : PSig) (ds : List Dyn) : Option (TD rs) :=
  fromK E p 0 c (unpack sig n ds) (endK E.ty rv rs)

/-! ### A function that hands over something new -/
def endW1 (rv : List ResultVar) (e : TypeId) (t : Ty) (bx : Bool) (s : St) : Option (List t.D) :=
  match rv with
  | [.tmp u] => match nthD .bad s.fr u with
    | .own id => bif bx then none else match nthD none s.obs id with
      | some ob => if ob.e = e then castD (.list ob.t) (.list t) ob.l else none
      | none => none
    | .nil => bif bx then none else if t.ok false && decide (0 < t.sz) then some [] else none
    | .ptr id 0 [] => bif bx then (match nthD none s.obs id with
      | some ob => if ob.e = e then castD (.list ob.t) (.list t) ob.l else none
      | none => none) else none
    | _ => none
  | _ => none

def endW (rv : List ResultVar) (e : TypeId) (t : Ty) (bx : Bool) : Exit → St → Option (List t.D)
  | .normal, s | .ret, s => endW1 rv e t bx s
  | _, _ => none

def fnW {t : Ty} (E : Env (List t.D)) (n : Nat) (rv : List ResultVar) (e : TypeId) (bx : Bool) (c : Code) (ds : List Dyn) : Option (List t.D) :=
  codeK E 0 c (entry n ds) (endW rv e t bx)

/-! ### A function that writes what it is handed -/
def entrySlots : List PK → Nat → List Dyn → List AV × List (Option Ob)
  | .val _ :: ps, j, d :: ds => let r := entrySlots ps j ds; (.val d.1 d.2 :: r.1, r.2)
  | .win e _ :: ps, j, ⟨.list u, l⟩ :: ⟨.flt, lo⟩ :: ⟨.flt, n⟩ :: ds => let r := entrySlots ps (j + 1) ds; (.win j lo n :: r.1, some ⟨e, u, l⟩ :: r.2)
  | .obj e _ :: ps, j, d :: ds => let r := entrySlots ps (j + 1) ds; (.ptr j 0 [] :: r.1, some ⟨e, d.1, [d.2]⟩ :: r.2)
  | _, _, _ => ([], [])

def entryG (n : Nat) (ps : List PK) (ds : List Dyn) : St :=
  let r := entrySlots ps 0 ds
  ⟨r.1 ++ blank (n - r.1.length), r.2⟩

def outsK (s : St) : List PK → Nat → Option (List Dyn)
  | [], _ => some []
  | .val _ :: ps, j => outsK s ps j
  | .win e t :: ps, j => match nthD none s.obs j, outsK s ps (j + 1) with
    | some ob, some ds => if ob.e = e && decide (ob.t = t) then some (⟨.list ob.t, ob.l⟩ :: ds) else none
    | _, _ => none
  | .obj e t :: ps, j => match nthD none s.obs j, outsK s ps (j + 1) with
    | some ob, some ds => match ob.l with
      | [x] => if ob.e = e && decide (ob.t = t) then some (⟨ob.t, x⟩ :: ds) else none
      | _ => none
    | _, _ => none

def ioN : List PK → Nat
  | [] => 0
  | p :: ps => (bif p.io then 1 else 0) + ioN ps

/-- No result is one of the caller's own. -/
def ownFree (io : Nat) (s : St) : List ResultVar → Bool
  | [] => true
  | .tmp u :: rs => (match nthD .bad s.fr u with
    | .own id => decide (io ≤ id)
    | _ => true) && ownFree io s rs
  | _ :: rs => ownFree io s rs

def endG (tyof : TypeId → Option TI) (rv : List ResultVar) (ps : List PK) (rs : List Ty) : Exit → St → Option (TD (ps.flatMap PK.outs ++ rs))
  | .normal, s | .ret, s => match outsK s ps 0, resultsK tyof s rs rv with
    | some os, some ds => bif ownFree (ioN ps) s rv then decT (ps.flatMap PK.outs ++ rs) (os ++ ds) else none
    | _, _ => none
  | _, _ => none

def fnG {ps : List PK} {rs : List Ty} (E : Env (TD (ps.flatMap PK.outs ++ rs))) (n : Nat) (rv : List ResultVar) (c : Code) (ds : List Dyn) : Option (TD (ps.flatMap PK.outs ++ rs)) :=
  codeK E 0 c (entryG n ps ds) (endG E.ty rv ps rs)

def fnFromG {ps : List PK} {rs : List Ty} (E : Env (TD (ps.flatMap PK.outs ++ rs))) (n : Nat) (rv : List ResultVar) (c : Code) (p : Nat) (sig : PSig) (ds : List Dyn) : Option (TD (ps.flatMap PK.outs ++ rs)) :=
  fromK E p 0 c (unpack sig n ds) (endG E.ty rv ps rs)

end Go.FK
