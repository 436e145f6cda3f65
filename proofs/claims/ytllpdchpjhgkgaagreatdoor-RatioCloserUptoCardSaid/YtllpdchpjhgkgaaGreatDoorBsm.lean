/- ratio.Best: the best approximation's contract. -/
import Derived.Test.YtllpdchpjhgkgaaGreatDoorPdm
import Derived.Test.YtllpdchpjhgkgaaGreatDoorF5
namespace Go.FK
open Go.RowKit Go.Proofs

def bsTys : List (TypeId × TI) := [(3, ⟨.int .i64, 0, 0⟩), (28, ⟨.int .i64, 0, 0⟩), (4, ⟨.bool, 0, 0⟩), (43, ⟨.int .u32, 0, 0⟩), (23, ⟨ptNt, 43, 4⟩), (25, ⟨ptZ, 0, 0⟩), (27, ⟨ptQ, 0, 0⟩)]
theorem bsTysOk : tysB Tryz.prog bsTys = true := by kernel_rfl

section
variable (F : BsF)
def bsFns (k : Nat) : List (FuncId × FS) := [(16, ⟨[ptNt], [.int .i64], fun x => F.fb k x⟩), (17, ⟨[ptQ], [ptQ], fun x => F.fn k x⟩), (18, ⟨[ptNt, ptNt], [.int .i64], fun x => F.fc k x⟩), (19, ⟨[.int .i64], [ptZ], fun x => F.f1 k x⟩), (20, ⟨[ptQ], [ptZ], fun x => F.fl k x⟩),
  (22, ⟨[ptZ, ptZ], [ptZ], fun x => F.fa k x⟩), (23, ⟨[ptZ, ptZ], [ptZ], fun x => F.fm k x⟩), (24, ⟨[ptNt, ptNt], [ptNt], fun x => F.na k x⟩), (25, ⟨[ptNt, ptNt], [ptNt], fun x => F.nm k x⟩), (26, ⟨[ptNt, ptNt], [ptNt, .int .i64], fun x => F.ns k x⟩),
  (27, ⟨[ptNt, ptNt], [ptNt, ptNt, .int .i64], fun x => F.nd k x⟩), (28, ⟨[ptZ, ptNt], [ptQ], fun x => F.md k x⟩), (29, ⟨[ptQ, ptQ, ptQ], [ptQ], fun x => F.nr k x⟩)]
def bsE (X : Type) (k : Nat) : Env X := mkE bsTys (bsFns F) (fun _ => []) (fun _ => []) [] k

/-! ### The code's parts -/
def bsC (f : Func) : Code := f.body.getD .skip
def bsX7 (f : Func) : Code := restC 7 (bsC f)
def bsR9 (f : Func) : Array Oper := cO (cL (cL (bsX7 f)))
def bsRest (f : Func) : Code := cR (bsX7 f)
def bsLoop (f : Func) : Code := cB (cR (cL (bsX7 f)))
def cA' : Code → Code | .rangeFunc _ _ a _ => a | c => c
def cD' : Code → Code | .rangeFunc _ _ _ b => b | c => c
def bsR10 (f : Func) : Array Oper := cO (cA' (bsLoop f))
def bsBody (f : Func) : Code := cD' (bsLoop f)
theorem bsRestEq : restC 7 (bsC Tryz.f5) = .seq (.seq (.region 9 (bsR9 Tryz.f5) false) (.block 0 (.rangeFunc (.tmp 38) #[39] (.region 10 (bsR10 Tryz.f5) false) (bsBody Tryz.f5)))) (bsRest Tryz.f5) := by kernel_rfl
def nop' : Oper := { dst := none, op := .assign (.const .nilIface), type := 0, pos := "", after := #[], guard := none }
def op' (l : List Oper) (n : Nat) : Oper := nthD nop' l n
theorem bs9 : (bsR9 Tryz.f5).toList = [op' (bsR9 Tryz.f5).toList 0, op' (bsR9 Tryz.f5).toList 1] ∧ (op' (bsR9 Tryz.f5).toList 0).op = .load 27 (.tmp 2) ∧ (op' (bsR9 Tryz.f5).toList 0).dst = some 37 ∧ (op' (bsR9 Tryz.f5).toList 0).guard = none ∧
    (op' (bsR9 Tryz.f5).toList 1).op = .call ⟨.value (.func 21), #[.tmp 37], #[27]⟩ ∧ (op' (bsR9 Tryz.f5).toList 1).dst = some 38 ∧ (op' (bsR9 Tryz.f5).toList 1).guard = none := ⟨by kernel_rfl, by kernel_rfl, by kernel_rfl, by kernel_rfl, by kernel_rfl, by kernel_rfl, by kernel_rfl⟩
theorem bs10 : (bsR10 Tryz.f5).toList = [op' (bsR10 Tryz.f5).toList 0, op' (bsR10 Tryz.f5).toList 1] ∧ (op' (bsR10 Tryz.f5).toList 0).op = .alloc 25 ∧ (op' (bsR10 Tryz.f5).toList 0).dst = some 11 ∧ (op' (bsR10 Tryz.f5).toList 0).guard = none ∧
    (op' (bsR10 Tryz.f5).toList 1).op = .store 25 (.tmp 11) (.tmp 39) ∧ (op' (bsR10 Tryz.f5).toList 1).dst = none ∧ (op' (bsR10 Tryz.f5).toList 1).guard = none := ⟨by kernel_rfl, by kernel_rfl, by kernel_rfl, by kernel_rfl, by kernel_rfl, by kernel_rfl, by kernel_rfl⟩
theorem bsNoDef : noDefS 7 (bsC Tryz.f5) = true ∧ noDefC (bsBody Tryz.f5) = true ∧ noDefC (bsRest Tryz.f5) = true := ⟨by kernel_rfl, by kernel_rfl, by kernel_rfl⟩

/-! ### The interpreter's states -/
def bsSig (io : Nat) : PSig := ⟨io, [(27, ptQ, true), (23, ptNt, true), (27, ptQ, true), (25, ptZ, true), (23, ptNt, true), (25, ptZ, true), (23, ptNt, true), (4, .bool, true)], [(2, .ptr 0 []), (3, .ptr 1 []), (4, .ptr 2 []), (6, .ptr 3 []), (7, .ptr 4 []), (8, .ptr 5 []), (9, .ptr 6 []), (10, .ptr 7 [])]⟩
theorem bsSigTys (io : Nat) : (bsSig io).tys = tysS := by kernel_rfl
def bsFr : List AV := setN (.ptr 7 0 []) (setN (.ptr 6 0 []) (setN (.ptr 5 0 []) (setN (.ptr 4 0 []) (setN (.ptr 3 0 []) (setN (.ptr 2 0 []) (setN (.ptr 1 0 []) (setN (.ptr 0 0 []) (blank 92) 2) 3) 4) 6) 7) 8) 9) 10
def bsObs (s : PS) : List Ob := [⟨27, ptQ, [s.1]⟩, ⟨23, ptNt, [s.2.1]⟩, ⟨27, ptQ, [s.2.2.1]⟩, ⟨25, ptZ, [s.2.2.2.1]⟩, ⟨23, ptNt, [s.2.2.2.2.1]⟩, ⟨25, ptZ, [s.2.2.2.2.2.1]⟩, ⟨23, ptNt, [s.2.2.2.2.2.2.1]⟩, ⟨4, .bool, [s.2.2.2.2.2.2.2]⟩]
theorem bsUnpack (io : Nat) (s : PS) : unpack (bsSig io) 92 (encT tysS s) = ⟨bsFr, (bsObs s).map some⟩ := by kernel_rfl
/-- What is packed. -/
def bsPack (io : Nat) (s : St) : Option PS := match pack s (bsSig io) with
  | none => none
  | some ds => decT tysS ds
def bsKl (s : St) : Option (Sum (PQ × Int) PS) := match bsPack 0 s with
  | none => none
  | some x => some (.inr x)
def bsRv : List ResultVar := [.cell 4 27, .tmp 5]
def bsEnd (e : Exit) (s : St) : Option (PQ × Int) := endK (lookT bsTys) bsRv [ptQ, .int .i64] e s
def bsK (e : Exit) (s : St) : Option (Sum (PQ × Int) PS) := match bsEnd e s with
  | none => none
  | some x => some (.inl x)
def bsBd (e : Exit) (s : St) : Option (Bool × PS) := match e with
  | .normal => match bsPack 8 s with
    | none => none
    | some x => some (true, x)
  | .exit 0 => match bsPack 8 s with
    | none => none
    | some x => some (false, x)
  | _ => none
theorem bsRunPre (k : Nat) (r : PQ) (most : PN) : spineK (bsE F (Sum (PQ × Int) PS) k) 7 (bsC Tryz.f5) (entry 92 [⟨ptQ, r⟩, ⟨ptNt, most⟩]) bsKl bsK = preB F k r most := by kernel_rfl
theorem bsRunBody (k : Nat) (s : PS) (x : PZ) : codeK (bsE F (Bool × PS) k) 0 (bsBody Tryz.f5) ⟨setN (.mem ptZ x) bsFr 11, (bsObs s).map some⟩ bsBd = bodyB F k s x := by kernel_rfl
theorem bsRunPost (k : Nat) (s : PS) : codeK (bsE F (PQ × Int) k) 0 (bsRest Tryz.f5) ⟨bsFr, (bsObs s).map some⟩ bsEnd = postB F k s := by kernel_rfl

/-- What the contracts say of the functions that Best calls. -/
structure BsCalls : Prop where
  fb : ∀ k, Contract Tryz.prog 16 ⟨[ptNt], [.int .i64], fun x => F.fb k x⟩
  fn : ∀ k, Contract Tryz.prog 17 ⟨[ptQ], [ptQ], fun x => F.fn k x⟩
  fc : ∀ k, Contract Tryz.prog 18 ⟨[ptNt, ptNt], [.int .i64], fun x => F.fc k x⟩
  f1 : ∀ k, Contract Tryz.prog 19 ⟨[.int .i64], [ptZ], fun x => F.f1 k x⟩
  fl : ∀ k, Contract Tryz.prog 20 ⟨[ptQ], [ptZ], fun x => F.fl k x⟩
  fa : ∀ k, Contract Tryz.prog 22 ⟨[ptZ, ptZ], [ptZ], fun x => F.fa k x⟩
  fm : ∀ k, Contract Tryz.prog 23 ⟨[ptZ, ptZ], [ptZ], fun x => F.fm k x⟩
  na : ∀ k, Contract Tryz.prog 24 ⟨[ptNt, ptNt], [ptNt], fun x => F.na k x⟩
  nm : ∀ k, Contract Tryz.prog 25 ⟨[ptNt, ptNt], [ptNt], fun x => F.nm k x⟩
  ns : ∀ k, Contract Tryz.prog 26 ⟨[ptNt, ptNt], [ptNt, .int .i64], fun x => F.ns k x⟩
  nd : ∀ k, Contract Tryz.prog 27 ⟨[ptNt, ptNt], [ptNt, ptNt, .int .i64], fun x => F.nd k x⟩
  md : ∀ k, Contract Tryz.prog 28 ⟨[ptZ, ptNt], [ptQ], fun x => F.md k x⟩
  nr : ∀ k, Contract Tryz.prog 29 ⟨[ptQ, ptQ, ptQ], [ptQ], fun x => F.nr k x⟩
variable {F}
theorem bsFnsOk (hc : BsCalls F) (X : Type) (k : Nat) : FnsOk Tryz.prog (bsE F X k) := by
  refine ⟨fun g m gs h => lookF_ok (P := Tryz.prog) (l := bsFns F k) ⟨hc.fb k, hc.fn k, hc.fc k, hc.f1 k, hc.fl k, hc.fa k, hc.fm k, hc.na k, hc.nm k, hc.ns k, hc.nd k, hc.md k, hc.nr k, trivial⟩ g m gs h, fun f fw h => ?_, fun f fg h => ?_, ptMix.2⟩
  · cases h
  · cases h
theorem bsTy {X : Type} {k : Nat} : ∀ T ti, (bsE F X k).ty T = some ti → TyOk Tryz.prog T ti := fun T ti h => tysB_ok bsTysOk T ti h
theorem bsPt {X : Type} {k : Nat} : ∀ p, (bsE F X k).pt p = none := fun _ => rfl

theorem bsFr_at (t : Nat) : nthD .bad bsFr t = .bad ∨ ∃ j, nthD .bad bsFr t = .ptr j 0 [] := by
  by_cases h : t = 2 ∨ t = 3 ∨ t = 4 ∨ t = 6 ∨ t = 7 ∨ t = 8 ∨ t = 9 ∨ t = 10
  · rcases h with rfl | rfl | rfl | rfl | rfl | rfl | rfl | rfl <;> exact .inr ⟨_, rfl⟩
  · refine .inl ?_
    unfold bsFr
    rw [nthD_setN, if_neg (by omega), nthD_setN, if_neg (by omega), nthD_setN, if_neg (by omega), nthD_setN, if_neg (by omega), nthD_setN, if_neg (by omega), nthD_setN, if_neg (by omega), nthD_setN, if_neg (by omega), nthD_setN, if_neg (by omega), nthD_blank]
theorem bsObs_ok (s : PS) : ∀ ob ∈ bsObs s, ob.t.ok false = true ∧ ob.l.length = 1 := by
  intro ob h
  simp only [bsObs, List.mem_cons, List.not_mem_nil, or_false] at h
  rcases h with rfl | rfl | rfl | rfl | rfl | rfl | rfl | rfl <;> exact ⟨rfl, rfl⟩
theorem bsPack_matches {io : Nat} {s : St} {S : PS} (h : bsPack io s = some S) {M0 b0 : Nat → Prop} {w0 w : World} {ro : List Value} {df : List Deferred} {a : Act} (hm : Matches M0 b0 w0 ⟨92, ro, df⟩ s a w) (h1 : ro.length ≤ io) (h2 : io ≤ 8) : Matches M0 b0 w0 ⟨92, ro, df⟩ ⟨bsFr, (bsObs S).map some⟩ a w := by
  unfold bsPack at h
  split at h
  · cases h
  · rename_i ds hds
    have := unpack_matches hm (sig := bsSig io) ⟨h1, h2⟩ hds
    rw [← decT_enc _ _ _ h] at this
    rw [← bsUnpack io S]
    exact this

/-! ### Between two rounds -/
section
variable (F) (k : Nat) (M : Nat → Prop) (w : World) (ros : List Value) (n1 B : Nat) (xs : List PZ) (fin : PS)
def bsI (pr : List PZ) (X : Nat → Prop) (W : World) : Prop :=
  X = (fun q => M q ∨ Yb ros q) ∧ Beyond (w.heap.size ≤ ·) w W ∧ n1 + 2 ≤ W.heap.size ∧ ∃ st, (∀ rest, pr ++ rest = xs → loopB F k st rest = some fin) ∧ LoopG (fun q => M q ∨ Own2 n1 B q) ros (bsObs st) W
def bsIx (c : Code) (W : World) : Prop := c = .exit 0 ∧ Beyond (w.heap.size ≤ ·) w W ∧ n1 + 2 ≤ W.heap.size ∧ LoopG (fun q => M q ∨ Own2 n1 B q) ros (bsObs fin) W
def bsMid (pr : List PZ) (X : Nat → Prop) (x : PZ) (a : Act) (W : World) : Prop :=
  bsI F k M w ros n1 B xs fin pr X W ∧ a.defers = [] ∧ a.tmps.size = 92 ∧ (∀ t, SlotR ros (nthD .bad bsFr t) (a.tmps.getD t undef)) ∧ RepA (fun q => (M q ∨ Own2 n1 B q) ∨ Yb ros q) (fun _ => undef) (fun _ => True) (fun _ => none) W (.mem ptZ x) (a.tmps.getD 11 undef)
end

section
variable {k : Nat} {M : Nat → Prop} {w : World} {ros : List Value} {n1 B : Nat} {xs : List PZ} {fin : PS} (hM : ∀ q, M q → q < w.heap.size) (hB : w.heap.size ≤ B ∧ B < n1)
include hM hB in
theorem bsG_keep {obs : List Ob} {W1 W2 : World} (h : LoopG (fun q => M q ∨ Own2 n1 B q) ros obs W1) (_hw : w.heap.size ≤ W1.heap.size) (hn : n1 + 2 ≤ W1.heap.size) (hC : Chg (Own2 n1 B) W1 W2) : LoopG (fun q => M q ∨ Own2 n1 B q) ros obs W2 := by
  have hsz := hC.agree.size
  refine h.keep hC (fun q h => .inr h) (fun _ _ h => h) fun q hq => ?_
  rcases hq with h | h | h | h
  · have := hM q h; omega
  · omega
  · omega
  · omega
include hB in
theorem bsB_keep {W1 W2 : World} (h : Beyond (w.heap.size ≤ ·) w W1) (hC : Chg (Own2 n1 B) W1 W2) : Beyond (w.heap.size ≤ ·) w W2 := by
  refine h.trans ⟨hC.os, hC.tape, hC.output, hC.size, fun q hq => Beyond.block hC q ?_⟩
  have := h.size
  rintro ((h | h | h) | h) <;> omega
include hM hB in
theorem bsI_keep {pr : List PZ} {X : Nat → Prop} {W1 W2 : World} (h : bsI F k M w ros n1 B xs fin pr X W1) (hC : Chg (Own2 n1 B) W1 W2) : bsI F k M w ros n1 B xs fin pr X W2 := by
  obtain ⟨h1, h2, h3, st, h4, h5⟩ := h
  exact ⟨h1, bsB_keep hB h2 hC, Nat.le_trans h3 hC.size, st, h4, bsG_keep hM hB h5 h2.size h3 hC⟩
include hM hB in
theorem bsMid_keep {pr : List PZ} {X : Nat → Prop} {x : PZ} {a : Act} {W1 W2 : World} (h : bsMid F k M w ros n1 B xs fin pr X x a W1) (hC : Chg (Own2 n1 B) W1 W2) : bsMid F k M w ros n1 B xs fin pr X x a W2 := by
  obtain ⟨h1, h2, h3, h4, h5⟩ := h
  exact ⟨bsI_keep hM hB h1 hC, h2, h3, h4, mem_keep h5 ⟨hC.size, fun b hb hn => Chg.block hC hb fun h => hn (.inl (.inr h))⟩ (fun _ _ h => h)⟩
include hM hB in
theorem bsI_X {pr : List PZ} {X : Nat → Prop} {W : World} (h : bsI F k M w ros n1 B xs fin pr X W) : (∀ q, X q → q < W.heap.size) ∧ ¬ X B ∧ ¬ X n1 ∧ ¬ X (n1 + 1) ∧ Gl (fun q => X q ∨ Own2 n1 B q) W := by
  obtain ⟨rfl, h2, h3, st, h4, h5⟩ := h
  have hsz := h2.size
  have no : ∀ q, w.heap.size ≤ q → Own2 n1 B q → ¬ (M q ∨ Yb ros q) := by
    rintro q hq ho (h | h)
    · have := hM q h; omega
    · exact (h5.lt h).2 (.inr ho)
  refine ⟨?_, no B hB.1 (.inr (.inr rfl)), no n1 (by omega) (.inl rfl), no (n1 + 1) (by omega) (.inr (.inl rfl)), h5.gl.next (Nat.le_refl _) (fun _ _ _ => rfl) ?_⟩
  · rintro q (h | h)
    · have := hM q h; omega
    · exact (h5.lt h).1
  · rintro q _ ((h | h) | h)
    · exact .inr (.inl h)
    · exact .inl h
    · exact .inr (.inr h)
end

/-- The assignment to the loop's variable: a new one in each round. -/
theorem bsAssign {k : Nat} {M : Nat → Prop} {w : World} {ros : List Value} {n1 B : Nat} {xs : List PZ} {fin : PS} (hM : ∀ q, M q → q < w.heap.size) (hB : w.heap.size ≤ B ∧ B < n1) {l : Nat} {pr : List PZ} {x : PZ} {X : Nat → Prop} {v : Value} {a : Act} {W : World} (hi : bsI F k M w ros n1 B xs fin pr X W)
    (hv : RepV (fun q => X q ∨ Own2 n1 B q) W ptZ x v) (hsz : a.tmps.size = 92) (hsl : ∀ t, SlotR ros (nthD .bad bsFr t) (a.tmps.getD t undef)) :
    (Code.region 10 (bsR10 Tryz.f5) false).wpIn (Fence.wide.inRound l) 0 Tryz.prog (Exit.then (fun a₁ W1 => bsMid F k M w ros n1 B xs fin pr X x a₁ W1 ∧ Chg (fun _ => False) W W1) (fun _ _ _ => False)) { tmps := a.tmps.setIfInBounds 39 v, defers := [] } W := by
  obtain ⟨e0, e1, e2, e3, e4, e5, e6⟩ := bs10
  obtain ⟨hok, cs, hcs, hvc⟩ := hv
  refine wpIn_region_list ?_
  rw [e0]
  have hty : TyOk Tryz.prog 25 ⟨ptZ, 0, 0⟩ := tysB_ok bsTysOk _ _ rfl
  obtain ⟨r1, r2, r3⟩ := alloc_run (P := Tryz.prog) (w := W) (a := { tmps := a.tmps.setIfInBounds 39 v, defers := [] }) e1 hty
  refine step_val (ro := some l) e3 (fun c e => by rw [e1] at e; cases e) r1 ?_
  rw [e2]
  generalize hW1 : W.alloc (.cells (⟨ptZ, 0, 0⟩ : TI).t.zcells.toArray 25) = W1 at r2 r3
  generalize hA1 : ({ tmps := a.tmps.setIfInBounds 39 v, defers := [] } : Act).put (some 11) (.pointer (some ⟨W.heap.size, 0, none⟩)) = A1
  have s0 : ({ tmps := a.tmps.setIfInBounds 39 v, defers := [] } : Act).tmps.size = 92 := by simp [hsz]
  have g11 : A1.tmps.getD 11 undef = .pointer (some ⟨W.heap.size, 0, none⟩) := by rw [← hA1]; exact put_get (by rw [s0]; decide)
  have g39 : A1.tmps.getD 39 undef = v := by
    rw [← hA1, put_oth (by decide)]
    show (a.tmps.setIfInBounds 39 v).getD 39 undef = v
    simp [Array.getD_eq_getD_getElem?, hsz]
  have gsl : ∀ t, SlotR ros (nthD .bad bsFr t) (A1.tmps.getD t undef) := by
    intro t
    by_cases h : t = 11 ∨ t = 39
    · rcases h with rfl | rfl <;> exact .inl rfl
    · have h1 : t ≠ 11 := fun e => h (.inl e)
      have h2 : t ≠ 39 := fun e => h (.inr e)
      have : A1.tmps.getD t undef = a.tmps.getD t undef := by
        rw [← hA1, put_oth (by simpa using fun e => h1 e.symm)]
        show (a.tmps.setIfInBounds 39 v).getD t undef = _
        simp [Array.getD_eq_getD_getElem?, Array.getElem?_setIfInBounds_ne (show (39 : Nat) ≠ t from fun e => h2 e.symm)]
      rw [this]
      exact hsl t
  have sA : A1.tmps.size = 92 := by rw [← hA1, put_size]; exact s0
  have dA : A1.defers = [] := by rw [← hA1]; rfl
  obtain ⟨W2, k1, k2, k3⟩ := store_run (P := Tryz.prog) (a := A1) (w := W1) (M := fun _ => False) e4 hty (x := x) (cs := cs) (g := W.heap.size) (Rep.next (Agree.of_below r2) (fun _ _ h => h.elim) _ _ _ hcs) (by show A1.tmps.getD 39 undef = _; rw [g39]; exact hvc) g11 r3
  refine step_skip (ro := some l) e6 (fun c e => by rw [e4] at e; cases e) k1 ?_
  rw [e5]
  have hC : Chg (fun _ => False) W W2 := by
    refine ⟨k3.os.trans r2.os, k3.tape.trans r2.tape, k3.output.trans r2.output, Nat.le_trans r2.size k3.size, fun q hq => ?_⟩
    have hlt : q < W.heap.size := by
      rcases Nat.lt_or_ge q W.heap.size with h | h
      · exact h
      · exact absurd (.inr h) hq
    rw [k3.block q (Nat.lt_of_lt_of_le hlt r2.size) (fun e => by cases e; omega)]
    exact r2.block q hlt
  have hXs := (bsI_X hM hB hi).1
  have hn1 := hi.2.2.1
  have hX := hi.1
  refine ⟨⟨bsI_keep hM hB hi (hC.mono fun _ h => h.elim), dA, sA, gsl, ?_⟩, hC⟩
  show RepA _ _ _ _ _ _ (A1.tmps.getD 11 undef)
  rw [g11]
  have hno : ¬ (X W.heap.size ∨ Own2 n1 B W.heap.size) := by
    rintro (h | h | h | h)
    · have := hXs _ h; omega
    · omega
    · omega
    · omega
  have hsub : ∀ q, ((M q ∨ Own2 n1 B q) ∨ Yb ros q) → (X q ∨ Own2 n1 B q) := by
    rw [hX]
    rintro q ((h | h) | h)
    · exact .inl (.inl h)
    · exact .inr h
    · exact .inl (.inr h)
  exact ⟨hok, _, cs, rfl, (k2.lt _ rfl).2, fun h => hno (hsub _ h), Rep.next (M := fun q => X q ∨ Own2 n1 B q) ⟨hC.size, fun b hb _ => Chg.block hC hb fun h => h⟩ (fun q _ h => hsub q h) _ _ _ hcs, fun j u hj => k2.cells (g := W.heap.size) rfl j u hj⟩

theorem bsRound {k : Nat} {M : Nat → Prop} {w : World} {ros : List Value} {n1 B : Nat} {xs : List PZ} {fin : PS} (hc : BsCalls F) (hl : ros.length = 8) (hYn : ∀ q, Yb ros q → w.heap.size ≤ q) (_hM : ∀ q, M q → q < w.heap.size) (hB : w.heap.size ≤ B ∧ B < n1) {l : Nat} {pr rest : List PZ} {x : PZ} {X : Nat → Prop} {a : Act} {W : World} (hxs : pr ++ x :: rest = xs)
    (hi : bsMid F k M w ros n1 B xs fin pr X x a W) :
    (bsBody Tryz.f5).wpIn (Fence.wide.inRound l) 0 Tryz.prog (bodyR (bsI F k M w ros n1 B xs fin) (bsIx M w ros n1 B fin) (fun W' => W'.heap[n1]? = W.heap[n1]? ∧ W'.heap[n1 + 1]? = W.heap[n1 + 1]?) (pr ++ [x]) X W) a W := by
  obtain ⟨⟨h1, h2, h3, st, h4, h5⟩, h6, h7, h8, h9⟩ := hi
  have hb := h4 (x :: rest) hxs
  obtain ⟨p, hp, hr⟩ := Option.bind_eq_some_iff.1 (show (bodyB F k st x).bind _ = some fin from hb)
  have hms : Matches (fun q => M q ∨ Own2 n1 B q) (fun q => W.heap.size ≤ q ∨ Yb ros q) W ⟨92, ros, []⟩ ⟨setN (.mem ptZ x) bsFr 11, (bsObs st).map some⟩ a W := by
    refine h5.matches (fr := setN (.mem ptZ x) bsFr 11) h6 h7 fun t => ?_
    by_cases ht : t = 11
    · subst ht
      exact .inr ⟨ptZ, x, rfl, h9⟩
    · refine .inl ?_
      rw [nthD_setN, if_neg (fun h => ht h.1.symm)]
      exact h8 t
  have hno : ∀ q, Own2 n1 B q → q < W.heap.size → ¬ (W.heap.size ≤ q ∨ Yb ros q) := by
    rintro q ho hq (h | h)
    · omega
    · exact (h5.lt h).2 (.inr ho)
  have key : ∀ {s : St} {a' : Act} {W' : World} {S : PS}, bsPack 8 s = some S → Matches (fun q => M q ∨ Own2 n1 B q) (fun q => W.heap.size ≤ q ∨ Yb ros q) W ⟨92, ros, []⟩ s a' W' →
      (W'.heap[n1]? = W.heap[n1]? ∧ W'.heap[n1 + 1]? = W.heap[n1 + 1]?) ∧ Beyond (w.heap.size ≤ ·) w W' ∧ n1 + 2 ≤ W'.heap.size ∧ LoopG (fun q => M q ∨ Own2 n1 B q) ros (bsObs S) W' ∧ Chg X W W' := by
    intro s a' W' S hS hm
    obtain ⟨G, q2, q3⟩ := LoopG.back (bsPack_matches hS hm (by omega) (by omega)) hl fun ob ho => (bsObs_ok S ob ho).1
    have hsz := h2.size
    refine ⟨⟨q2.block n1 (hno n1 (.inl rfl) (by omega)), q2.block (n1 + 1) (hno (n1 + 1) (.inr (.inl rfl)) (by omega))⟩, h2.trans ⟨q2.os, q2.tape, q2.output, q2.size, fun q hq => q2.block q ?_⟩, Nat.le_trans h3 q2.size, G, ⟨q2.os, q2.tape, q2.output, q2.size, fun q hq => q2.block q ?_⟩⟩
    · rintro (h | ⟨j, v, hj, hv⟩)
      · omega
      · exact hq (hYn q ⟨j, v, hj, hv⟩)
    · rw [h1] at hq
      rintro (h | h)
      · exact hq (.inr h)
      · exact hq (.inl (.inr h))
  have hX2 : ∀ {W' : World}, Chg X W W' → ∀ q, q < W.heap.size → X q → X q := fun _ _ _ h => h
  refine codeK_in bsTy (bsFnsOk hc _ k) ptMix.1 bsPt (bsBody Tryz.f5) 0 _ bsBd _ a W ((bsRunBody F k st x).trans hp) bsNoDef.2.1 (fun e s a' W' he hm => ?_) hms
  cases e with
  | normal =>
    simp only [bsBd] at he
    split at he
    · cases he
    · rename_i S hS
      cases he
      obtain ⟨k1, k2, k3, k4, k5⟩ := key hS hm
      refine ⟨k1, X, ⟨h1, k2, k3, S, fun rest' hr' => ?_, k4⟩, k5, fun _ _ h => h⟩
      have e : rest' = rest := by
        rw [← hxs, List.append_assoc] at hr'
        simpa using hr'
      rw [e]
      exact hr
  | exit i =>
    cases i with
    | succ i => simp [bsBd] at he
    | zero =>
      simp only [bsBd] at he
      split at he
      · cases he
      · rename_i S hS
        cases he
        obtain ⟨k1, k2, k3, k4, k5⟩ := key hS hm
        have hf : S = fin := Option.some.inj hr
        rw [hf] at k4
        exact ⟨k1, rfl, k2, k3, k4⟩
  | _ => simp [bsBd] at he

theorem bsRv_eq : Tryz.f5.results.toList = bsRv := by kernel_rfl
theorem bsBodyEq : Tryz.f5.body = some (bsC Tryz.f5) := by kernel_rfl

/-- **ratio.Best.** -/
theorem best_calls {fl : Nat → PQ → Option PZ} {fo : Nat → PZ → Option PQ} {fs : Nat → PQ × PQ → Option PQ} {fi : Nat → PQ → Option (PQ × Int)} (hp : PtCalls fl fo fs fi) (hc : BsCalls F) (heP : ∀ args w, (callFunc 21 args).run Tryz.prog w = .ok (.enter 21 args) w) (heC : ∀ args w, (callFunc 53 args).run Tryz.prog w = .ok (.enter 53 args) w)
    {k : Nat} {r : PQ} {most : PN} {ans : PQ × Int} (hx : bestF F (expF fl fo fs fi) k r most = some ans) {M : Nat → Prop} {w : World} {v0 v1 : Value} (hM : ∀ b, M b → b < w.heap.size) (hgl : Gl M w) (hv : RepDs M w [⟨ptQ, r⟩, ⟨ptNt, most⟩] [v0, v1]) :
    Calls Tryz.prog 5 #[v0, v1] w fun e w' => ∃ us, e = .returned (tupleOf us) ∧ RepDs M w' (encT [ptQ, .int .i64] ans) us ∧ Below w.heap.size w w' := by
  refine (callsIn_wide (n := 0)).1 ?_
  refine callsIn_of_wp_marks Tryz.func5 bsBodyEq trivial ?_
  obtain ⟨p, hpre, hx⟩ := Option.bind_eq_some_iff.1 (show (preB F k r most).bind _ = some ans from hx)
  have hent := entry_matches (nt := 92) hM hgl hv (by show 2 ≤ 92; decide)
  have htq : TyOk Tryz.prog 27 ⟨ptQ, 0, 0⟩ := tysB_ok bsTysOk _ _ rfl
  refine spine_in (ro := none) bsTy (bsFnsOk hc _ k) ptMix.1 bsPt 7 (bsC Tryz.f5) _ bsKl bsK _ _ _ ((bsRunPre F k r most).trans hpre) bsNoDef.1 (fun e s a w' he hm => ?_) (fun s a w' hk hm => ?_) hent
  · -- no loop
    unfold bsK at he
    split at he
    · cases he
    · rename_i z hz
      cases he
      have hza : z = ans := Option.some.inj hx
      rw [hza] at hz
      have := end_post (P := Tryz.prog) (rs := [ptQ, .int .i64]) (tyof := lookT bsTys) (fun T ti h => tysB_ok bsTysOk T ti h) (fn := Tryz.f5) bsRv_eq (nt := ⟨92, [], []⟩) rfl (r := ans) e a w' ⟨s, hz, hm⟩
      cases e with
      | normal =>
        obtain ⟨d, h⟩ := this
        show LeavesInM _ _ _ _ _ _ a.defers _ _
        rw [d]
        exact h
      | ret =>
        obtain ⟨d, h⟩ := this
        show LeavesInM _ _ _ _ _ _ a.defers _ _
        rw [d]
        exact h
      | _ => simp [bsEnd, endK] at hz
  -- at the loop
  unfold bsKl at hk
  split at hk
  · cases hk
  rename_i S hS
  cases hk
  obtain ⟨xs, hxs, hx⟩ := Option.bind_eq_some_iff.1 (show (expF fl fo fs fi k S.1).bind _ = some ans from hx)
  obtain ⟨fin, hfin, hpost⟩ := Option.bind_eq_some_iff.1 hx
  have hok : ∀ ob ∈ bsObs S, ob.t.ok false = true := fun ob ho => (bsObs_ok S ob ho).1
  obtain ⟨ros, hrl, hm2⟩ := (bsPack_matches hS hm (by decide) (by decide)).pin
  have hrl : ros.length = 8 := hrl
  obtain ⟨G, hBy, hYn⟩ := LoopG.back hm2 hrl hok
  have hsl : ∀ t, SlotR ros (nthD .bad bsFr t) (a.tmps.getD t undef) := by
    intro t
    rcases bsFr_at t with h | ⟨j, h⟩
    · exact .inl h
    · exact hm2.slot hrl (bsObs_ok S) h
  have sA : a.tmps.size = 92 := hm2.2.2.1
  have dA : a.defers = [] := hm2.1
  have b12 : Below w.heap.size w w' := hBy.below
  clear hm2 hm hS hent
  rw [bsRestEq]
  -- ratio.parts
  obtain ⟨e0, e1, e2, e3, e4, e5, e6⟩ := bs9
  refine wpIn_seq (wpIn_seq (wpIn_region_list ?_))
  rw [e0]
  obtain ⟨g, c, hj, u2⟩ : ∃ g c, ros[0]? = some (.slice (some ⟨g, 0, none⟩) 1 c) ∧ a.tmps.getD 2 undef = .pointer (some ⟨g, 0, none⟩) := by
    rcases hsl 2 with h | ⟨j, g, c, h1, h2, h3⟩
    · cases h
    · cases h1
      exact ⟨g, c, h2, h3⟩
  obtain ⟨_, _, ys, hys, hrow⟩ := G.good.ob 0 _ (obF_map.2 (show (bsObs S)[0]? = some ⟨27, ptQ, [S.1]⟩ from rfl))
  have hr0 : rowAt ros 0 = .slice (some ⟨g, 0, none⟩) 1 c := by simp [rowAt, hj]
  rw [hr0] at hys
  have hown : w'.ownsRow 0 27 ptQ.sz (.slice (some ⟨g, 0, none⟩) 1 c) 1 ys := hys.1.1 rfl
  have hyl : ys.length = ptQ.sz := by have := hrow.1; simpa using this
  have hrep : Rep (fun q => M q ∨ Yb ros q) w' ptQ S.1 ys := by
    have h1 := hrow.2 0 S.1 rfl
    rw [Nat.zero_mul] at h1
    have h2 : seg ys 0 ptQ.sz = ys := by rw [← hyl]; exact seg_all ys
    have h1 : Rep _ w' ptQ S.1 (seg ys 0 ptQ.sz) := h1
    rw [h2] at h1
    exact Rep.next (Agree.refl _ _) (fun q _ h => (G.msum q).2 h) _ _ _ h1
  have hld := load_run (P := Tryz.prog) (w := w') (a := a) e1 htq hyl u2 hown
  refine step_val (ro := none) e3 (fun c e => by rw [e1] at e; cases e) hld ?_
  rw [e2]
  have u37 : (a.put (some 37) (ofCells ptQ ys)).tmps.getD 37 undef = ofCells ptQ ys := put_get (by rw [sA]; decide)
  have hMY : ∀ b, (M b ∨ Yb ros b) → b < w'.heap.size := by
    rintro b (h | h)
    · have := hM b h; have := b12.size; omega
    · exact (G.lt h).1
  have hdo := parts_do hp S.1 (fun b => M b ∨ Yb ros b) w' (ofCells ptQ ys) hMY (G.gl.next (Nat.le_refl _) (fun _ _ _ => rfl) (fun q _ h => h.elim .inr .inl)) ⟨rfl, ys, hrep, rfl⟩
  refine step_call (ro := none) (f := 21) (x := .tmp 37) e6 e4 heP (Z := fun v w3 => ∃ B c, v = .func (.func 53) #[] #[.pointer (some ⟨B, 0, none⟩)] ∧ w'.heap.size ≤ B ∧ ObIn (fun b => (M b ∨ Yb ros b) ∨ b = B) w3 (.slice (some ⟨B, 0, none⟩) 1 c) ⟨27, ptQ, [S.1]⟩ ∧ Below w'.heap.size w' w3) ?_ ?_
  · rw [show (a.put (some 37) (ofCells ptQ ys)).eval (.tmp 37) = ofCells ptQ ys from u37]
    exact Calls.mono hdo fun e w3 h => by
      obtain ⟨B, c, rfl, h2, h3, h4⟩ := h
      exact ⟨_, rfl, B, c, rfl, h2, h3, h4⟩
  rintro vf w3 ⟨B, cB, rfl, hB2, hob, b3⟩
  rw [e5]
  have u38 : ((a.put (some 37) (ofCells ptQ ys)).put (some 38) (.func (.func 53) #[] #[.pointer (some ⟨B, 0, none⟩)])).tmps.getD 38 undef = .func (.func 53) #[] #[.pointer (some ⟨B, 0, none⟩)] := put_get (by rw [put_size, sA]; decide)
  have hsl3 : ∀ t, SlotR ros (nthD .bad bsFr t) (((a.put (some 37) (ofCells ptQ ys)).put (some 38) (.func (.func 53) #[] #[.pointer (some ⟨B, 0, none⟩)])).tmps.getD t undef) := by
    intro t
    by_cases h : t = 37 ∨ t = 38
    · rcases h with rfl | rfl <;> exact .inl rfl
    · have h1 : t ≠ 37 := fun e => h (.inl e)
      have h2 : t ≠ 38 := fun e => h (.inr e)
      rw [put_oth (by simpa using fun e => h2 e.symm), put_oth (by simpa using fun e => h1 e.symm)]
      exact hsl t
  have s3 : ((a.put (some 37) (ofCells ptQ ys)).put (some 38) (.func (.func 53) #[] #[.pointer (some ⟨B, 0, none⟩)])).tmps.size = 92 := by rw [put_size, put_size, sA]
  have d3 : ((a.put (some 37) (ofCells ptQ ys)).put (some 38) (.func (.func 53) #[] #[.pointer (some ⟨B, 0, none⟩)])).defers = [] := dA
  generalize (a.put (some 37) (ofCells ptQ ys)).put (some 38) (.func (.func 53) #[] #[.pointer (some ⟨B, 0, none⟩)]) = A3 at u38 hsl3 s3 d3
  clear e0 e1 e2 e3 e4 e5 e6 hld u37 hdo
  show (Code.block 0 _).wpIn Fence.wide 0 Tryz.prog _ A3 w3
  have hB3 : B < w3.heap.size := by
    obtain ⟨_, _, ys, h, _⟩ := hob
    exact (h.lt B rfl).2
  have b13 : Below w.heap.size w w3 := b12.trans (b3.mono b12.size)
  have hBf : w.heap.size ≤ B ∧ B < w3.heap.size := ⟨Nat.le_trans b12.size hB2, hB3⟩
  have tail : ∀ (W : World), Beyond (w.heap.size ≤ ·) w W → w3.heap.size + 2 ≤ W.heap.size → LoopG (fun q => M q ∨ Own2 w3.heap.size B q) ros (bsObs fin) W → W.heap[w3.heap.size]? = some (.deferred (some [])) →
      (bsRest Tryz.f5).wpIn Fence.wide 0 Tryz.prog (bodyPostM Fence.wide 0 Tryz.prog Tryz.f5 fun e w' => ∃ us, e = .returned (tupleOf us) ∧ RepDs M w' (encT [ptQ, .int .i64] ans) us ∧ Below w.heap.size w w') { A3 with defers := { target := .collected w3.heap.size, args := #[] } :: A3.defers } W := by
    intro W h2 h3 hG hD
    have hms := hG.matches (a := { A3 with defers := { target := .collected w3.heap.size, args := #[] } :: A3.defers }) rfl (fr := bsFr) s3 fun t => .inl (hsl3 t)
    refine codeK_in (ro := none) bsTy (bsFnsOk hc _ k) ptMix.1 bsPt (bsRest Tryz.f5) 0 _ bsEnd _ _ W ((bsRunPost F k fin).trans hpost) bsNoDef.2.2 (fun e s a' W' he hm => ?_) hms
    have hdf : a'.defers = [{ target := .collected w3.heap.size, args := #[] }] := by rw [← d3]; exact hm.1
    have hby := hm.2.1
    have hn1 : W'.heap[w3.heap.size]? = W.heap[w3.heap.size]? := hby.block _ (by
      rintro (h | h)
      · omega
      · exact (hG.lt h).2 (.inr (.inl rfl)))
    have hC : Chg (Own2 w3.heap.size B) W' (W'.putObj w3.heap.size (.deferred none)) := ⟨rfl, rfl, rfl, by simp, fun b hb => World.putObj_heap_other fun e => hb (.inl (.inl e))⟩
    have hm3 := hm.keep hC fun q h => .inr h
    obtain ⟨_, _, _, _, ν, hw, hg, hr⟩ := hm3
    have fin2 : (match resultsK (lookT bsTys) s [ptQ, .int .i64] bsRv with | some ds => decT [ptQ, .int .i64] ds | none => none) = some ans → LeavesInM Fence.wide 0 Tryz.prog Tryz.f5 a'.tmps (fun e w' => ∃ us, e = .returned (tupleOf us) ∧ RepDs M w' (encT [ptQ, .int .i64] ans) us ∧ Below w.heap.size w w') a'.defers .returning W' := by
      intro hk
      split at hk
      · rename_i ds hds
        have henc := decT_enc _ _ _ hk
        obtain ⟨us, k1, k2⟩ := results_at (P := Tryz.prog) (tyof := lookT bsTys) (fun T ti h => tysB_ok bsTysOk T ti h) (fn := Tryz.f5) bsRv_eq hg hr (M' := M) (fun b hb => .inl (.inl hb)) (fun u id ob _ _ hob b hb hm => hg.m0 b (.inl hm) ((hg.ob id ob hob).2.2.choose_spec.1.2 b hb)) hds
        rw [hdf]
        refine ⟨by simp, .inl ⟨_, _, rfl, run_takeDeferred (hn1.trans hD), _, k1, us, rfl, by rw [henc]; exact k2, ⟨?_, ?_, ?_, ?_, fun q hq => ?_⟩⟩⟩
        · exact hby.os.trans h2.os
        · exact hby.tape.trans h2.tape
        · exact hby.output.trans h2.output
        · have := hby.size; have := h2.size; simp; omega
        · rw [World.putObj_heap_other (by have := b13.size; omega), hby.block q (by
            rintro (h | h)
            · have := h2.size; omega
            · have := hYn q h; omega)]
          exact h2.block q (by omega)
      · cases hk
    cases e with
    | normal => exact fin2 he
    | ret => exact fin2 he
    | _ => simp [bsEnd, endK] at he
  refine wpIn_block (range_law (P := Tryz.prog) (gf := 53) (lb := #[.pointer (some ⟨B, 0, none⟩)]) u38 heC (parts_ok hp k S.1 xs hxs B) hB3 (fun M M' W W' n v h hA hM => RepV.next hA hM h) (bsI F k M w ros w3.heap.size B xs fin) (bsIx M w ros w3.heap.size B fin) (fun q => M q ∨ Yb ros q)
    (fun pr X W h => bsI_X hM hBf h) (fun pr X W1 W2 h hC => bsI_keep hM hBf h hC) (fun c W1 W2 h hC => ⟨h.1, bsB_keep hBf h.2.1 hC, Nat.le_trans h.2.2.1 hC.size, bsG_keep hM hBf h.2.2.2 h.2.1.size h.2.2.1 hC⟩) (fun W hW hsz => ⟨?_, ?_⟩) (bsMid F k M w ros w3.heap.size B xs fin) (fun pr X n a W1 W2 h hC => bsMid_keep hM hBf h hC)
    (fun l pr n rest X v W hxs hsz hi hn => bsAssign hM hBf hi hn s3 hsl3)
    (fun l pr n rest X a W hxs hsz hmid => bsRound hc hrl hYn hM hBf hxs hmid) (fun X W hi hD => ?_) (fun c W hi hD => ?_))
  · refine ⟨rfl, ⟨hW.os.trans b13.os, hW.tape.trans b13.tape, hW.output.trans b13.output, Nat.le_trans b13.size hW.size, fun q hq => ?_⟩, by omega, S, fun rest hr => ?_, ?_⟩
    · rw [hW.block q (by have := b13.size; omega)]
      exact b13.block q (by omega)
    · have hr : rest = xs := hr
      rw [hr]; exact hfin
    · refine G.keep (S := fun _ => False) (Chg.of_below (b3.trans (hW.mono b3.size))) (fun _ h => h.elim) (fun q hq h => ?_) (fun q h => ?_)
      · rcases h with h | h | h | h
        · exact h
        · have := b3.size; omega
        · have := b3.size; omega
        · omega
      · rcases h with h | h | h | h
        · have := hM q h; have := b13.size; omega
        · omega
        · omega
        · omega
  · obtain ⟨q1, q2, ys, q3, q4⟩ := hob
    refine ⟨cB, q1, q2, ys, ownsRow_same q3 (fun b hb => by cases hb; exact hW.block B hB3), q4.next (Agree.of_below hW) ?_⟩
    rintro q hq (h | h | h | h)
    · exact .inl h
    · omega
    · omega
    · exact .inr h
  · obtain ⟨h1, h2, h3, st, h4, h5⟩ := hi
    have e : st = fin := Option.some.inj (h4 [] (by simp))
    rw [e] at h5
    exact tail W h2 h3 h5 hD
  · obtain ⟨rfl, h2, h3, h5⟩ := hi
    exact wpIn_exit (tail W h2 h3 h5 hD)

theorem best_contract {fl : Nat → PQ → Option PZ} {fo : Nat → PZ → Option PQ} {fs : Nat → PQ × PQ → Option PQ} {fi : Nat → PQ → Option (PQ × Int)} (hp : PtCalls fl fo fs fi) (hc : BsCalls F) (k : Nat) : Contract Tryz.prog 5 ⟨[ptQ, ptNt], [ptQ, .int .i64], fun x => bestF F (expF fl fo fs fi) k x.1 x.2⟩ := by
  intro x r hx M w vs hM hgl hvs
  match vs, hvs with
  | [v0, v1], hvs =>
    exact .inl ⟨enters Tryz.func5 bsBodyEq (by kernel_rfl) _ _, best_calls hp hc (enters Tryz.func21 paBody (by kernel_rfl)) (enters Tryz.func53 ptBody (by kernel_rfl)) hx hM hgl hvs⟩
end
end Go.FK
