/- ratio.Expand: all that ratio.parts hands over. -/
import Derived.Test.YtllpdchpjhgkgaaDoorItm
namespace Go.FK
open Go.RowKit Go.Proofs

section
variable {fl : Nat → PQ → Option PZ} {fo : Nat → PZ → Option PQ} {fs : Nat → PQ × PQ → Option PQ} {fi : Nat → PQ → Option (PQ × Int)}

/-! ### ratio.parts itself -/
def paEnd (e : Exit) (s : St) : Option PQ := match e with
  | .ret => match nthD .bad s.fr 2 with
    | .clo f id => match nthD none s.obs id with
      | some ⟨e', .st (.pair (.st (.pair .bool (.list (.int .u32)))) (.list (.int .u32))), [y]⟩ => if e' = 27 ∧ f = 52 then some y else none
      | _ => none
    | _ => none
  | _ => none
theorem paEnd_some {e : Exit} {s : St} {y : PQ} (h : paEnd e s = some y) : e = .ret ∧ ∃ id, nthD .bad s.fr 2 = .clo 52 id ∧ nthD none s.obs id = some ⟨27, ptQ, [y]⟩ := by
  cases e with
  | ret =>
    refine ⟨rfl, ?_⟩
    unfold paEnd at h
    simp only at h
    split at h
    · rename_i f id h1
      split at h
      · rename_i e' z h2
        split at h
        · rename_i he
          obtain ⟨rfl, rfl⟩ := he
          cases h
          exact ⟨id, h1, h2⟩
        · cases h
      · cases h
    · cases h
  | _ => cases h
theorem paRun (x : PQ) : codeK (ptE fl fo fs fi PQ 0) 0 (Tryd.f31.body.getD .skip) (entry 4 [⟨ptQ, x⟩]) paEnd = some x := by kernel_rfl
theorem paBody : Tryd.f31.body = some (Tryd.f31.body.getD .skip) := by kernel_rfl

theorem parts_do (hc : PtCalls fl fo fs fi) (x : PQ) (M : Nat → Prop) (w : World) (v : Value) (hM : ∀ b, M b → b < w.heap.size) (hgl : Gl M w) (hv : RepV M w ptQ x v) :
    Calls Tryd.prog 31 #[v] w fun e w' => ∃ B c, e = .returned (.func (.func 52) #[] #[.pointer (some ⟨B, 0, none⟩)]) ∧ w.heap.size ≤ B ∧ ObIn (fun b => M b ∨ b = B) w' (.slice (some ⟨B, 0, none⟩) 1 c) ⟨27, ptQ, [x]⟩ ∧ Below w.heap.size w w' := by
  have hm := entry_matches (nt := 4) hM hgl (ds := [⟨ptQ, x⟩]) (vs := [v]) ⟨hv, trivial⟩ (by show 1 ≤ 4; decide)
  refine calls_of_wp Tryd.func31 paBody ?_
  refine codeK_sound ptTy (ptFnsOk hc _ 0) ptMix.1 _ 0 _ _ _ _ _ (paRun x) (by kernel_rfl) (fun p s a w _ hk _ => by cases hk) (fun e s a w' he hm' => ?_) hm
  obtain ⟨rfl, id, h1, h2⟩ := paEnd_some he
  obtain ⟨k1, k2, k3, hn3, ν, hw, hg, hr⟩ := hm'
  have hr2 := hr 2
  rw [h1] at hr2
  have h2' : obF s.obs id = some ⟨27, ptQ, [x]⟩ := h2
  obtain ⟨_, hr2⟩ := hr2
  obtain ⟨_, g, n, c, e1, e2⟩ := hr2 _ h2'
  obtain ⟨q1, q2, xs, q3, q4⟩ := hg.ob id _ h2'
  rw [e1] at q3
  have hn : n = 1 := by
    obtain ⟨A, c', h⟩ := q3.1.slice
    cases h
    rfl
  subst hn
  have hgb := q3.2 g rfl
  have hres : (results Tryd.f31 a.tmps).run Tryd.prog w' = .ok (a.tmps.getD 2 undef) w' := results_tmp (by kernel_rfl) _ _ _
  refine ⟨k1, _, hres, g, c, by rw [e2], hgb, ⟨rfl, q2, xs, q3.1.1 rfl, q4.next (Agree.refl _ _) (fun b _ hb => ?_)⟩, k2.below⟩
  rcases hb with hb | rfl
  · exact .inl hb
  · exact .inr ⟨id, _, h2', by rw [e1]; rfl⟩

/-! ### The code's parts -/
def exC (f : Func) : Code := f.body.getD .skip
def exR0 (f : Func) : Array Oper := cO (cL (exC f))
def exR1 (f : Func) : Array Oper := cO (cL (cR (exC f)))
def exR2 (f : Func) : Array Oper := cO (cL (cL (cR (cR (exC f)))))
def cA : Code → Code | .rangeFunc _ _ a _ => a | c => c
def cD : Code → Code | .rangeFunc _ _ _ b => b | c => c
def exLoop (f : Func) : Code := cB (cR (cL (cR (cR (exC f)))))
def exR3 (f : Func) : Array Oper := cO (cA (exLoop f))
def exR4 (f : Func) : Array Oper := cO (cB (cD (exLoop f)))
def exR5 (f : Func) : Array Oper := cO (cL (cR (cR (cR (exC f)))))
theorem exBody : Tryd.f10.body = some (.seq (.region 0 (exR0 Tryd.f10) false) (.seq (.region 1 (exR1 Tryd.f10) false) (.seq (.seq (.region 2 (exR2 Tryd.f10) false) (.block 0 (.rangeFunc (.tmp 6) #[7] (.region 3 (exR3 Tryd.f10) false) (.block 1 (.region 4 (exR4 Tryd.f10) false))))) (.seq (.region 5 (exR5 Tryd.f10) false) .ret)))) := by kernel_rfl
def nop : Oper := { dst := none, op := .assign (.const .nilIface), type := 0, pos := "", after := #[], guard := none }
def op (l : List Oper) (n : Nat) : Oper := nthD nop l n
theorem ex0 : (exR0 Tryd.f10).toList = [op (exR0 Tryd.f10).toList 0, op (exR0 Tryd.f10).toList 1] ∧ (op (exR0 Tryd.f10).toList 0).op = .box 27 (.tmp 0) ∧ (op (exR0 Tryd.f10).toList 0).dst = some 1 ∧ (op (exR0 Tryd.f10).toList 0).guard = none ∧
    (op (exR0 Tryd.f10).toList 1).op = .assign (.const (.slice none 0 0)) ∧ (op (exR0 Tryd.f10).toList 1).dst = some 2 ∧ (op (exR0 Tryd.f10).toList 1).guard = none := ⟨by kernel_rfl, by kernel_rfl, by kernel_rfl, by kernel_rfl, by kernel_rfl, by kernel_rfl, by kernel_rfl⟩
theorem ex1 : (exR1 Tryd.f10).toList = [op (exR1 Tryd.f10).toList 0] ∧ (op (exR1 Tryd.f10).toList 0).op = .alloc 34 ∧ (op (exR1 Tryd.f10).toList 0).dst = some 3 ∧ (op (exR1 Tryd.f10).toList 0).guard = none := ⟨by kernel_rfl, by kernel_rfl, by kernel_rfl, by kernel_rfl⟩
theorem ex2 : (exR2 Tryd.f10).toList = [op (exR2 Tryd.f10).toList 0, op (exR2 Tryd.f10).toList 1] ∧ (op (exR2 Tryd.f10).toList 0).op = .load 27 (.tmp 1) ∧ (op (exR2 Tryd.f10).toList 0).dst = some 5 ∧ (op (exR2 Tryd.f10).toList 0).guard = none ∧
    (op (exR2 Tryd.f10).toList 1).op = .call ⟨.value (.func 31), #[.tmp 5], #[27]⟩ ∧ (op (exR2 Tryd.f10).toList 1).dst = some 6 ∧ (op (exR2 Tryd.f10).toList 1).guard = none := ⟨by kernel_rfl, by kernel_rfl, by kernel_rfl, by kernel_rfl, by kernel_rfl, by kernel_rfl, by kernel_rfl⟩
theorem ex3 : (exR3 Tryd.f10).toList = [op (exR3 Tryd.f10).toList 0, op (exR3 Tryd.f10).toList 1] ∧ (op (exR3 Tryd.f10).toList 0).op = .alloc 25 ∧ (op (exR3 Tryd.f10).toList 0).dst = some 4 ∧ (op (exR3 Tryd.f10).toList 0).guard = none ∧
    (op (exR3 Tryd.f10).toList 1).op = .store 25 (.tmp 4) (.tmp 7) ∧ (op (exR3 Tryd.f10).toList 1).dst = none ∧ (op (exR3 Tryd.f10).toList 1).guard = none := ⟨by kernel_rfl, by kernel_rfl, by kernel_rfl, by kernel_rfl, by kernel_rfl, by kernel_rfl, by kernel_rfl⟩
theorem ex4 : (exR4 Tryd.f10).toList = op (exR4 Tryd.f10).toList 0 :: ([op (exR4 Tryd.f10).toList 1, op (exR4 Tryd.f10).toList 2, op (exR4 Tryd.f10).toList 3] ++ [op (exR4 Tryd.f10).toList 4]) ∧ (op (exR4 Tryd.f10).toList 0).op = .load 34 (.tmp 3) ∧ (op (exR4 Tryd.f10).toList 0).dst = some 8 ∧ (op (exR4 Tryd.f10).toList 0).guard = none ∧
    (op (exR4 Tryd.f10).toList 4).op = .store 34 (.tmp 3) (.tmp 11) ∧ (op (exR4 Tryd.f10).toList 4).dst = none ∧ (op (exR4 Tryd.f10).toList 4).guard = none := ⟨by kernel_rfl, by kernel_rfl, by kernel_rfl, by kernel_rfl, by kernel_rfl, by kernel_rfl, by kernel_rfl⟩
theorem ex5 : (exR5 Tryd.f10).toList = [op (exR5 Tryd.f10).toList 0, op (exR5 Tryd.f10).toList 1] ∧ (op (exR5 Tryd.f10).toList 0).op = .load 34 (.tmp 3) ∧ (op (exR5 Tryd.f10).toList 0).dst = some 12 ∧ (op (exR5 Tryd.f10).toList 0).guard = none ∧
    (op (exR5 Tryd.f10).toList 1).op = .assign (.tmp 12) ∧ (op (exR5 Tryd.f10).toList 1).dst = some 2 ∧ (op (exR5 Tryd.f10).toList 1).guard = none := ⟨by kernel_rfl, by kernel_rfl, by kernel_rfl, by kernel_rfl, by kernel_rfl, by kernel_rfl, by kernel_rfl⟩

/-- What is appended in a round, as the interpreter has it. -/
def exS (pr : List PZ) (n : PZ) : St := ⟨setN (.own 0) (setN (.mem ptZ n) (blank 13) 4) 8, [some ⟨25, ptZ, pr⟩]⟩
def exT (pr : List PZ) (n : PZ) : St := ⟨setN (.own 3) (setN (.val (.list ptZ) [n]) (setN (.val ptZ n) (exS pr n).fr 9) 10) 11, [none, none, none, some ⟨25, ptZ, pr ++ [n]⟩]⟩
theorem exRun (pr : List PZ) (n : PZ) : runOps (ptE fl fo fs fi St 0) (exR4 Tryd.f10).toList 0 [op (exR4 Tryd.f10).toList 1, op (exR4 Tryd.f10).toList 2, op (exR4 Tryd.f10).toList 3] [] (exS pr n) some =
    bif Nat.ble ((pr.length + [n].length) * 32) 140737488355328 && Nat.ble (pr.length + [n].length) 9223372036854775807 then some (exT pr n) else none := by kernel_rfl

/-! ### Between two rounds -/
def exI (M : Nat → Prop) (w0 : World) (L B n1 : Nat) (pr : List PZ) (X : Nat → Prop) (W : World) : Prop :=
  Beyond (w0.heap.size ≤ ·) w0 W ∧ n1 + 2 ≤ W.heap.size ∧ ∃ v cells, W.ownsRow 0 34 1 (.slice (some ⟨L, 0, none⟩) 1 1) 1 [v] ∧ W.ownsRow 0 25 2 v pr.length cells ∧ (∀ b, v.ownBlock = some b → w0.heap.size ≤ b ∧ b ≠ L ∧ ¬ Own2 n1 B b) ∧
    RepRow (fun q => X q ∨ Own2 n1 B q) W ptZ pr cells ∧ X = fun q => M q ∨ q = L ∨ v.ownBlock = some q
def exMid (M : Nat → Prop) (w0 : World) (L B n1 : Nat) (pr : List PZ) (X : Nat → Prop) (x : PZ) (a : Act) (W : World) : Prop :=
  exI M w0 L B n1 pr X W ∧ a.defers = [] ∧ a.tmps.size = 13 ∧ a.tmps.getD 3 undef = .pointer (some ⟨L, 0, none⟩) ∧ RepA (fun q => X q ∨ Own2 n1 B q) (fun _ => undef) (fun _ => True) (fun _ => none) W (.mem ptZ x) (a.tmps.getD 4 undef)

section
variable {M : Nat → Prop} {w0 : World} {L B n1 : Nat} (hM : ∀ q, M q → q < w0.heap.size) (hgl : Gl M w0) (hL : w0.heap.size ≤ L ∧ L < n1 ∧ L ≠ B) (hB : w0.heap.size ≤ B ∧ B < n1)
include hM hL hB in
theorem exI_X {pr : List PZ} {X : Nat → Prop} {W : World} (hgl : Gl M w0) (h : exI M w0 L B n1 pr X W) : (∀ q, X q → q < W.heap.size) ∧ ¬ X B ∧ ¬ X n1 ∧ ¬ X (n1 + 1) ∧ Gl (fun q => X q ∨ Own2 n1 B q) W := by
  obtain ⟨h1, h2, v, cells, h3, h4, h5, h6, rfl⟩ := h
  have hsz := h1.size
  refine ⟨?_, ?_, ?_, ?_, hgl.next hsz (fun b hb _ => h1.block b (by omega)) ?_⟩
  · rintro q (h | rfl | h)
    · have := hM q h; omega
    · exact (h3.lt q rfl).2
    · exact (h4.lt q h).2
  · rintro (h | h | h)
    · have := hM B h; omega
    · exact hL.2.2 h.symm
    · exact (h5 B h).2.2 (.inr (.inr rfl))
  · rintro (h | h | h)
    · have := hM _ h; omega
    · omega
    · exact (h5 _ h).2.2 (.inl rfl)
  · rintro (h | h | h)
    · have := hM _ h; omega
    · omega
    · exact (h5 _ h).2.2 (.inr (.inl rfl))
  · rintro b hb ((h | h | h) | h | h | h)
    · exact h
    · omega
    · have := (h5 b h).1; omega
    · omega
    · omega
    · omega
include hL hB in
theorem exI_keep {pr : List PZ} {X : Nat → Prop} {W1 W2 : World} (h : exI M w0 L B n1 pr X W1) (hC : Chg (Own2 n1 B) W1 W2) : exI M w0 L B n1 pr X W2 := by
  obtain ⟨h1, h2, v, cells, h3, h4, h5, h6, rfl⟩ := h
  have hLn : ¬ Own2 n1 B L := by
    rintro (h | h | h)
    · omega
    · omega
    · exact hL.2.2 h
  refine ⟨h1.trans ⟨hC.os, hC.tape, hC.output, hC.size, fun q hq => Beyond.block hC q ?_⟩, Nat.le_trans h2 hC.size, v, cells, ownsRow_same h3 (fun b hb => by cases hb; exact Chg.block hC (h3.lt L rfl).2 hLn), ownsRow_same h4 (fun b hb => Chg.block hC (h4.lt b hb).2 (h5 b hb).2.2), h5, h6.next ⟨hC.size, fun b hb hn => Chg.block hC hb fun h => hn (.inr h)⟩ (fun _ _ h => h), rfl⟩
  rintro ((h | h | h) | h)
  · omega
  · omega
  · omega
  · have := h1.size; omega
include hL hB in
theorem exMid_keep {pr : List PZ} {X : Nat → Prop} {x : PZ} {a : Act} {W1 W2 : World} (h : exMid M w0 L B n1 pr X x a W1) (hC : Chg (Own2 n1 B) W1 W2) : exMid M w0 L B n1 pr X x a W2 := by
  obtain ⟨h1, h2, h3, h4, h5⟩ := h
  exact ⟨exI_keep hL hB h1 hC, h2, h3, h4, mem_keep h5 ⟨hC.size, fun b hb hn => Chg.block hC hb fun h => hn (.inr h)⟩ (fun _ _ h => h)⟩
end

/-- The assignment to the loop's variable: a new one in each round. -/
theorem exAssign {M : Nat → Prop} {w0 : World} {L B n1 : Nat} (hL : w0.heap.size ≤ L ∧ L < n1 ∧ L ≠ B) (hB : w0.heap.size ≤ B ∧ B < n1) {l : Nat} {pr : List PZ} {x : PZ} {X : Nat → Prop} {v : Value} {a : Act} {W : World} (hi : exI M w0 L B n1 pr X W) (hv : RepV (fun q => X q ∨ Own2 n1 B q) W ptZ x v)
    (hXs : ∀ q, X q → q < W.heap.size) (_ha : a.defers = []) (hsz : a.tmps.size = 13) (h3 : a.tmps.getD 3 undef = .pointer (some ⟨L, 0, none⟩)) :
    (Code.region 3 (exR3 Tryd.f10) false).wpIn (Fence.wide.inRound l) 0 Tryd.prog (Exit.then (fun a₁ W1 => exMid M w0 L B n1 pr X x a₁ W1 ∧ Chg (fun _ => False) W W1) (fun _ _ _ => False)) { tmps := a.tmps.setIfInBounds 7 v, defers := [] } W := by
  obtain ⟨e0, e1, e2, e3, e4, e5, e6⟩ := ex3
  obtain ⟨hok, cs, hcs, hvc⟩ := hv
  refine wpIn_region_list ?_
  rw [e0]
  have hty : TyOk Tryd.prog 25 ⟨ptZ, 0, 0⟩ := tysB_ok ptTysOk _ _ rfl
  obtain ⟨r1, r2, r3⟩ := alloc_run (P := Tryd.prog) (w := W) (a := { tmps := a.tmps.setIfInBounds 7 v, defers := [] }) e1 hty
  refine step_val (ro := some l) e3 (fun c e => by rw [e1] at e; cases e) r1 ?_
  rw [e2]
  generalize hW1 : W.alloc (.cells (⟨ptZ, 0, 0⟩ : TI).t.zcells.toArray 25) = W1 at r2 r3
  generalize hA1 : ({ tmps := a.tmps.setIfInBounds 7 v, defers := [] } : Act).put (some 4) (.pointer (some ⟨W.heap.size, 0, none⟩)) = A1
  have s0 : ({ tmps := a.tmps.setIfInBounds 7 v, defers := [] } : Act).tmps.size = 13 := by simp [hsz]
  have g4 : A1.tmps.getD 4 undef = .pointer (some ⟨W.heap.size, 0, none⟩) := by rw [← hA1]; exact put_get (by rw [s0]; decide)
  have g7 : A1.tmps.getD 7 undef = v := by
    rw [← hA1, put_oth (by decide)]
    show (a.tmps.setIfInBounds 7 v).getD 7 undef = v
    simp [Array.getD_eq_getD_getElem?, hsz]
  have g3 : A1.tmps.getD 3 undef = .pointer (some ⟨L, 0, none⟩) := by
    rw [← hA1, put_oth (by decide), ← h3]
    show (a.tmps.setIfInBounds 7 v).getD 3 undef = _
    simp [Array.getD_eq_getD_getElem?, Array.getElem?_setIfInBounds_ne (show (7 : Nat) ≠ 3 by decide)]
  have sA : A1.tmps.size = 13 := by rw [← hA1, put_size]; exact s0
  have dA : A1.defers = [] := by rw [← hA1]; rfl
  obtain ⟨W2, k1, k2, k3⟩ := store_run (P := Tryd.prog) (a := A1) (w := W1) (M := fun _ => False) e4 hty (x := x) (cs := cs) (g := W.heap.size) (Rep.next (Agree.of_below r2) (fun _ _ h => h.elim) _ _ _ hcs) (by show A1.tmps.getD 7 undef = _; rw [g7]; exact hvc) g4 r3
  refine step_skip (ro := some l) e6 (fun c e => by rw [e4] at e; cases e) k1 ?_
  rw [e5]
  have hC : Chg (fun _ => False) W W2 := by
    refine ⟨k3.os.trans r2.os, k3.tape.trans r2.tape, k3.output.trans r2.output, Nat.le_trans r2.size k3.size, fun q hq => ?_⟩
    have hlt : q < W.heap.size := by
      rcases Nat.lt_or_ge q W.heap.size with h | h
      · exact h
      · exact absurd (.inr h) hq
    rw [k3.block q (Nat.lt_of_lt_of_le hlt r2.size) (fun e => by cases e; omega)]
    exact r2.block q hlt
  have hn1 := hi.2.1
  refine ⟨⟨exI_keep hL hB hi (hC.mono fun _ h => h.elim), dA, sA, g3, ?_⟩, hC⟩
  show RepA _ _ _ _ _ _ (A1.tmps.getD 4 undef)
  rw [g4]
  refine ⟨hok, _, cs, rfl, (k2.lt _ rfl).2, ?_, Rep.next (M := fun q => X q ∨ Own2 n1 B q) ⟨hC.size, fun b hb _ => Chg.block hC hb fun h => h⟩ (fun _ _ h => h) _ _ _ hcs, fun j u hj => k2.cells (g := W.heap.size) rfl j u hj⟩
  rintro (h | h | h | h)
  · have := hXs _ h; simp at this
  · simp at h; omega
  · simp at h; omega
  · simp at h; omega

theorem exS_bad {pr : List PZ} {n : PZ} {t : Nat} (h4 : t ≠ 4) (h8 : t ≠ 8) : nthD .bad (exS pr n).fr t = .bad := by
  unfold exS
  rw [nthD_setN, if_neg (by omega), nthD_setN, if_neg (by omega), nthD_blank]
theorem ex4d : ∀ o ∈ [op (exR4 Tryd.f10).toList 1, op (exR4 Tryd.f10).toList 2, op (exR4 Tryd.f10).toList 3], o.dst ≠ some 3 := by
  have h1 : (op (exR4 Tryd.f10).toList 1).dst = some 9 := by kernel_rfl
  have h2 : (op (exR4 Tryd.f10).toList 2).dst = some 10 := by kernel_rfl
  have h3 : (op (exR4 Tryd.f10).toList 3).dst = some 11 := by kernel_rfl
  intro o ho
  simp only [List.mem_cons, List.not_mem_nil, or_false] at ho
  rcases ho with rfl | rfl | rfl
  · rw [h1]; decide
  · rw [h2]; decide
  · rw [h3]; decide

/-- A round: one part more. -/
theorem exRound (hc : PtCalls fl fo fs fi) {M : Nat → Prop} {w0 : World} {L B n1 : Nat} (hM : ∀ q, M q → q < w0.heap.size) (hgl : Gl M w0) (hL : w0.heap.size ≤ L ∧ L < n1 ∧ L ≠ B) (hB : w0.heap.size ≤ B ∧ B < n1) {l : Nat} {pr : List PZ} {x : PZ} (hb : (pr.length + 1) * 32 ≤ 140737488355328 ∧ pr.length + 1 ≤ 9223372036854775807)
    {X : Nat → Prop} {a : Act} {W : World} (hmid : exMid M w0 L B n1 pr X x a W) :
    (Code.block 1 (.region 4 (exR4 Tryd.f10) false)).wpIn (Fence.wide.inRound l) 0 Tryd.prog (bodyR (exI M w0 L B n1) (fun _ _ => False) (fun W' => W'.heap[n1]? = W.heap[n1]? ∧ W'.heap[n1 + 1]? = W.heap[n1 + 1]?) (pr ++ [x]) X W) a W := by
  obtain ⟨hi, dA, sA, g3, m4⟩ := hmid
  obtain ⟨x1, x2, x3, x4, x5⟩ := exI_X hM hL hB hgl hi
  obtain ⟨h1, h2, v, cells, h3, h4, h5, h6, rfl⟩ := hi
  obtain ⟨e0, e1, e2, e3, e4, e5, e6⟩ := ex4
  have htl : TyOk Tryd.prog 34 ⟨.list ptZ, 25, 32⟩ := tysB_ok ptTysOk _ _ rfl
  have hLW : L < W.heap.size := (h3.lt L rfl).2
  refine wpIn_block (wpIn_region_list ?_)
  rw [e0]
  have hload := load_run (P := Tryd.prog) (a := a) e1 htl (cs := [v]) rfl g3 h3
  refine step_val (ro := some l) e3 (fun c e => by rw [e1] at e; cases e) hload ?_
  rw [e2]
  show wpListIn (Wd (some l)) 0 Tryd.prog (exR4 Tryd.f10) _ _ (a.put (some 8) v) W
  have hM0 : ∀ q, (M q ∨ q = L ∨ Own2 n1 B q) → q < W.heap.size := by
    have := h1.size
    rintro q (h | rfl | h | h | h)
    · have := hM q h; omega
    · exact hLW
    · omega
    · omega
    · omega
  have hm : Matches (fun q => M q ∨ q = L ∨ Own2 n1 B q) (fun q => W.heap.size ≤ q ∨ v.ownBlock = some q) W ⟨(exS pr x).fr.length, [v], []⟩ (exS pr x) (a.put (some 8) v) W := by
    refine mkM (e := 25) (t := ptZ) (l := pr) (ys := cells) rfl (by decide) h4 (h6.next (Agree.refl _ _) ?_) hM0 ?_ (x5.next (Nat.le_refl _) (fun _ _ _ => rfl) ?_) dA ?_ ?_
    · rintro q _ ((h | h | h) | h)
      · exact .inl (.inl h)
      · exact .inl (.inr (.inl h))
      · exact .inr h
      · exact .inl (.inr (.inr h))
    · rintro b hb (h | h | h)
      · have := hM b h
        have := (h5 b hb).1
        omega
      · exact (h5 b hb).2.1 h
      · exact (h5 b hb).2.2 h
    · rintro q _ ((h | h | h) | h)
      · exact .inl (.inl h)
      · exact .inl (.inr (.inl h))
      · exact .inr h
      · exact .inl (.inr (.inr h))
    · rw [put_size, sA]; rfl
    · intro t
      by_cases t8 : t = 8
      · subst t8
        exact .inr (.inl ⟨rfl, put_get (by rw [sA]; decide)⟩)
      by_cases t4 : t = 4
      · subst t4
        refine .inr (.inr ⟨ptZ, x, rfl, ?_⟩)
        rw [put_oth (by decide)]
        refine mem_keep m4 (Agree.refl _ _) ?_
        rintro q _ ((h | h | h) | h)
        · exact .inl (.inl h)
        · exact .inl (.inr (.inl h))
        · exact .inr h
        · exact .inl (.inr (.inr h))
      · exact .inl (exS_bad t4 t8)
  have hrun := exRun (fl := fl) (fo := fo) (fs := fs) (fi := fi) pr x
  rw [show (Nat.ble ((pr.length + [x].length) * 32) 140737488355328 && Nat.ble (pr.length + [x].length) 9223372036854775807) = true by simp only [Bool.and_eq_true, Nat.ble_eq]; exact hb] at hrun
  refine piece_pin (ro := some l) (t := 3) (u := .pointer (some ⟨L, 0, none⟩)) ptTy (ptFnsOk hc St 0) (K := some) (r := exT pr x) (n0 := 0) (fun s' a' w' hs hm' hu => ?_) _ [] _ _ _ (by kernel_rfl) ex4d hrun hm (by rw [put_oth (by decide)]; exact g3)
  cases hs
  obtain ⟨k1, k2, k3, k4, ν, hw, hg, hr⟩ := hm'
  have hr11 := hr 11
  obtain ⟨_, hv'⟩ := hr11
  obtain ⟨q1, q2, ys, q3, q4⟩ := hg.ob 3 ⟨25, ptZ, pr ++ [x]⟩ rfl
  have hv' : a'.tmps.getD 11 undef = ν 3 := hv'
  have hLs : w'.heap[L]? = W.heap[L]? := k2.block L (by
    rintro (h | h)
    · omega
    · exact (h5 L h).2.1 rfl)
  have h3' := ownsRow_same h3 (w' := w') (fun b hb => by cases hb; exact hLs)
  obtain ⟨W4, r1, r2, r3⟩ := store_run (P := Tryd.prog) (a := a') (w := w') (M := fun _ => False) e4 htl (x := pr ++ [x]) (cs := [ν 3]) (g := L) (RepRow.list (q3.1.1 rfl) (q4.next (Agree.refl _ _) (fun _ _ h => h.elim)) (fun _ _ h => h)) hv' hu h3'
  refine step_skip (ro := some l) e6 (fun c e => by rw [e4] at e; cases e) r1 ?_
  have hown : ∀ b, (ν 3).ownBlock = some b → W.heap.size ≤ b ∨ v.ownBlock = some b := q3.2
  have hsW := h1.size
  have hown' : ∀ b, (ν 3).ownBlock = some b → w0.heap.size ≤ b ∧ b ≠ L ∧ ¬ Own2 n1 B b := by
    intro b hb
    rcases hown b hb with h | h
    · refine ⟨by omega, by omega, ?_⟩
      rintro (h | h | h) <;> omega
    · exact h5 b h
  have same : ∀ q, q < W.heap.size → ¬ v.ownBlock = some q → q ≠ L → W4.heap[q]? = W.heap[q]? := by
    intro q hq h1 h2
    rw [r3.block q (Nat.lt_of_lt_of_le hq k2.size) (fun e => h2 (by cases e; rfl))]
    exact k2.block q (by
      rintro (h | h)
      · omega
      · exact h1 h)
  refine ⟨⟨same n1 (by omega) (fun h => (h5 n1 h).2.2 (.inl rfl)) (by omega), same (n1 + 1) (by omega) (fun h => (h5 _ h).2.2 (.inr (.inl rfl))) (by omega)⟩, fun q => M q ∨ q = L ∨ (ν 3).ownBlock = some q, ⟨?_, Nat.le_trans h2 (Nat.le_trans k2.size r3.size), ν 3, ys, r2, ownsRow_same (q3.1.1 rfl) (fun b hb => ?_), hown', ?_, rfl⟩, ?_, ?_⟩
  · refine h1.trans ⟨r3.os.trans k2.os, r3.tape.trans k2.tape, r3.output.trans k2.output, Nat.le_trans k2.size r3.size, fun q hq => same q (by omega) (fun h => ?_) (by omega)⟩
    have := (h5 q h).1
    omega
  · exact r3.block b (q3.1.lt b hb).2 (fun e => by cases e; exact (hown' L hb).2.1 rfl)
  · refine q4.next ⟨r3.size, fun b hb hn => r3.block b hb fun e => hn (by cases e; exact .inl (.inr (.inl rfl)))⟩ ?_
    rintro q _ ((h | h | h) | h)
    · exact .inl (.inl h)
    · exact .inl (.inr (.inl h))
    · exact .inr ⟨3, _, rfl, h⟩
    · exact .inl (.inr (.inr h))
  · refine ⟨r3.os.trans k2.os, r3.tape.trans k2.tape, r3.output.trans k2.output, Nat.le_trans k2.size r3.size, fun q hq => ?_⟩
    simp only [not_or] at hq
    exact same q (by omega) hq.1.2.2 hq.1.2.1
  · rintro q hq (h | h | h)
    · exact .inl h
    · exact .inr (.inl h)
    · rcases hown q h with h | h
      · omega
      · exact .inr (.inr h)

/-- **ratio.Expand hands over the parts.** -/
theorem expand_calls (hc : PtCalls fl fo fs fi) (heP : ∀ args w, (callFunc 31 args).run Tryd.prog w = .ok (.enter 31 args) w) (heC : ∀ args w, (callFunc 52 args).run Tryd.prog w = .ok (.enter 52 args) w) {k : Nat} {x : PQ} {xs : List PZ} (hx : expF fl fo fs fi k x = some xs) (hb : xs.length * 32 ≤ 140737488355328 ∧ xs.length ≤ 9223372036854775807)
    {M : Nat → Prop} {w : World} {v0 : Value} (hM : ∀ b, M b → b < w.heap.size) (hgl : Gl M w) (hv : RepV M w ptQ x v0) :
    Calls Tryd.prog 10 #[v0] w fun e w' => ∃ us, e = .returned (tupleOf us) ∧ RepDs M w' [⟨.list ptZ, xs⟩] us ∧ Below w.heap.size w w' := by
  refine (callsIn_wide (n := 0)).1 ?_
  refine callsIn_of_wp_marks Tryd.func10 exBody trivial ?_
  obtain ⟨hok, cs, hcs, hvc⟩ := hv
  have htq : TyOk Tryd.prog 27 ⟨ptQ, 0, 0⟩ := tysB_ok ptTysOk _ _ rfl
  have htl : TyOk Tryd.prog 34 ⟨.list ptZ, 25, 32⟩ := tysB_ok ptTysOk _ _ rfl
  obtain ⟨A0, hA0⟩ : ∃ A : Act, A = { tmps := #[v0] ++ Array.replicate (Tryd.f10.ntmps - #[v0].size) undef, defers := [] } := ⟨_, rfl⟩
  rw [← hA0]
  have s0 : A0.tmps.size = 13 := by rw [hA0]; rfl
  have t0 : A0.tmps.getD 0 undef = v0 := by rw [hA0]; rfl
  have d0 : A0.defers = [] := by rw [hA0]
  -- a box for the number
  obtain ⟨e0, e1, e2, e3, e4, e5, e6⟩ := ex0
  refine wpIn_seq (wpIn_region_list ?_)
  rw [e0]
  obtain ⟨r1, b1, o1⟩ := box_run (P := Tryd.prog) (w := w) (a := A0) e1 hok hcs (t0.trans hvc)
  refine step_val (ro := none) e3 (fun c e => by rw [e1] at e; cases e) r1 ?_
  rw [e2]
  refine step_val (ro := none) e6 (fun c e => by rw [e4] at e; cases e) (assign_run e4) ?_
  rw [e5]
  generalize w.alloc (.cells cs.toArray 27) = w1 at b1 o1
  have u1 : ((A0.put (some 1) (.pointer (some ⟨w.heap.size, 0, none⟩))).put (some 2) ((A0.put (some 1) (.pointer (some ⟨w.heap.size, 0, none⟩))).eval (.const (.slice none 0 0)))).tmps.getD 1 undef = .pointer (some ⟨w.heap.size, 0, none⟩) := by
    rw [put_oth (by decide)]
    exact put_get (by rw [s0]; decide)
  have s1 : ((A0.put (some 1) (.pointer (some ⟨w.heap.size, 0, none⟩))).put (some 2) ((A0.put (some 1) (.pointer (some ⟨w.heap.size, 0, none⟩))).eval (.const (.slice none 0 0)))).tmps.size = 13 := by rw [put_size, put_size, s0]
  have d1 : ((A0.put (some 1) (.pointer (some ⟨w.heap.size, 0, none⟩))).put (some 2) ((A0.put (some 1) (.pointer (some ⟨w.heap.size, 0, none⟩))).eval (.const (.slice none 0 0)))).defers = [] := d0
  generalize (A0.put (some 1) (.pointer (some ⟨w.heap.size, 0, none⟩))).put (some 2) ((A0.put (some 1) (.pointer (some ⟨w.heap.size, 0, none⟩))).eval (.const (.slice none 0 0))) = A1 at u1 s1 d1
  clear e0 e1 e2 e3 e4 e5 e6 r1
  show (Code.seq _ _).wpIn Fence.wide 0 Tryd.prog _ A1 w1
  -- a box for the list
  obtain ⟨e0, e1, e2, e3⟩ := ex1
  refine wpIn_seq (wpIn_region_list ?_)
  rw [e0]
  obtain ⟨r1, b2, o2⟩ := alloc_run (P := Tryd.prog) (w := w1) (a := A1) e1 htl
  refine step_val (ro := none) e3 (fun c e => by rw [e1] at e; cases e) r1 ?_
  rw [e2]
  generalize w1.alloc (.cells (⟨.list ptZ, 25, 32⟩ : TI).t.zcells.toArray 34) = w2 at b2 o2
  have u2 : (A1.put (some 3) (.pointer (some ⟨w1.heap.size, 0, none⟩))).tmps.getD 3 undef = .pointer (some ⟨w1.heap.size, 0, none⟩) := put_get (by rw [s1]; decide)
  have u21 : (A1.put (some 3) (.pointer (some ⟨w1.heap.size, 0, none⟩))).tmps.getD 1 undef = .pointer (some ⟨w.heap.size, 0, none⟩) := by rw [put_oth (by decide)]; exact u1
  have s2 : (A1.put (some 3) (.pointer (some ⟨w1.heap.size, 0, none⟩))).tmps.size = 13 := by rw [put_size, s1]
  have d2 : (A1.put (some 3) (.pointer (some ⟨w1.heap.size, 0, none⟩))).defers = [] := d1
  generalize A1.put (some 3) (.pointer (some ⟨w1.heap.size, 0, none⟩)) = A2 at u2 u21 s2 d2
  generalize hL : w1.heap.size = L at *
  clear e0 e1 e2 e3 r1
  show (Code.seq _ _).wpIn Fence.wide 0 Tryd.prog _ A2 w2
  -- ratio.parts
  have hLsz : w.heap.size ≤ L := by have := b1.size; omega
  have hL2 : L < w2.heap.size := (o2.lt L rfl).2
  have b12 : Below w.heap.size w w2 := b1.trans (b2.mono (by omega))
  have o1' : w2.ownsRow 0 27 3 (.slice (some ⟨w.heap.size, 0, none⟩) 1 1) 1 cs := ownsRow_same o1 (fun b hb => b2.block b (by have := (o1.lt b hb).2; omega))
  obtain ⟨e0, e1, e2, e3, e4, e5, e6⟩ := ex2
  refine wpIn_seq (wpIn_seq (wpIn_region_list ?_))
  rw [e0]
  have hld := load_run (P := Tryd.prog) (w := w2) (a := A2) e1 htq (Rep.len _ _ _ hcs) u21 o1'
  refine step_val (ro := none) e3 (fun c e => by rw [e1] at e; cases e) hld ?_
  rw [e2]
  have u5 : (A2.put (some 5) (ofCells ptQ cs)).tmps.getD 5 undef = v0 := by rw [hvc]; exact put_get (by rw [s2]; decide)
  have hM2 : ∀ b, (M b ∨ b = L) → b < w2.heap.size := by
    rintro b (h | rfl)
    · have := hM b h; have := b12.size; omega
    · exact hL2
  have hsub : ∀ b, b < w.heap.size → (M b ∨ b = L) → M b := by
    rintro b hb (h | rfl)
    · exact h
    · omega
  have hdo := parts_do hc x (fun b => M b ∨ b = L) w2 v0 hM2 (hgl.next b12.size (fun b hb _ => b12.block b hb) hsub) (RepV.next (Agree.of_below b12) hsub ⟨hok, cs, hcs, hvc⟩)
  refine step_call (ro := none) (f := 31) (x := .tmp 5) e6 e4 heP (Z := fun v w' => ∃ B c, v = .func (.func 52) #[] #[.pointer (some ⟨B, 0, none⟩)] ∧ w2.heap.size ≤ B ∧ ObIn (fun b => (M b ∨ b = L) ∨ b = B) w' (.slice (some ⟨B, 0, none⟩) 1 c) ⟨27, ptQ, [x]⟩ ∧ Below w2.heap.size w2 w') ?_ ?_
  · rw [show (A2.put (some 5) (ofCells ptQ cs)).eval (.tmp 5) = v0 from u5]
    exact Calls.mono hdo fun e w' h => by
      obtain ⟨B, c, rfl, h2, h3, h4⟩ := h
      exact ⟨_, rfl, B, c, rfl, h2, h3, h4⟩
  rintro vf w3 ⟨B, c, rfl, hB2, hob, b3⟩
  rw [e5]
  show (Code.block 0 _).wpIn Fence.wide 0 Tryd.prog _ ((A2.put (some 5) (ofCells ptQ cs)).put (some 6) (.func (.func 52) #[] #[.pointer (some ⟨B, 0, none⟩)])) w3
  have u3 : ((A2.put (some 5) (ofCells ptQ cs)).put (some 6) (.func (.func 52) #[] #[.pointer (some ⟨B, 0, none⟩)])).tmps.getD 3 undef = .pointer (some ⟨L, 0, none⟩) := by rw [put_oth (by decide), put_oth (by decide)]; exact u2
  have u6 : ((A2.put (some 5) (ofCells ptQ cs)).put (some 6) (.func (.func 52) #[] #[.pointer (some ⟨B, 0, none⟩)])).tmps.getD 6 undef = .func (.func 52) #[] #[.pointer (some ⟨B, 0, none⟩)] := put_get (by rw [put_size, s2]; decide)
  have s3 : ((A2.put (some 5) (ofCells ptQ cs)).put (some 6) (.func (.func 52) #[] #[.pointer (some ⟨B, 0, none⟩)])).tmps.size = 13 := by rw [put_size, put_size, s2]
  have d3 : ((A2.put (some 5) (ofCells ptQ cs)).put (some 6) (.func (.func 52) #[] #[.pointer (some ⟨B, 0, none⟩)])).defers = [] := d2
  generalize (A2.put (some 5) (ofCells ptQ cs)).put (some 6) (.func (.func 52) #[] #[.pointer (some ⟨B, 0, none⟩)]) = A3 at u3 u6 s3 d3
  clear e0 e1 e2 e3 e4 e5 e6 hld u5 hdo
  -- the loop
  have hB3 : B < w3.heap.size := by
    obtain ⟨_, _, ys, h, _⟩ := hob
    exact (h.lt B rfl).2
  have b13 : Below w.heap.size w w3 := b12.trans (b3.mono (by have := b12.size; omega))
  have hLf : w.heap.size ≤ L ∧ L < w3.heap.size ∧ L ≠ B := ⟨hLsz, by have := b3.size; omega, by omega⟩
  have hBf : w.heap.size ≤ B ∧ B < w3.heap.size := ⟨by have := b12.size; omega, hB3⟩
  have o2' : ∀ W, Below w3.heap.size w3 W → W.ownsRow 0 34 1 (.slice (some ⟨L, 0, none⟩) 1 1) 1 [.slice none 0 0] := fun W hW => ownsRow_same o2 (fun b hb => by cases hb; rw [hW.block L hLf.2.1, b3.block L hL2])
  refine wpIn_block (range_law (P := Tryd.prog) (gf := 52) (lb := #[.pointer (some ⟨B, 0, none⟩)]) u6 heC (parts_ok hc k x xs hx B) hB3 (fun M M' W W' n v h hA hM => RepV.next hA hM h) (exI M w L B w3.heap.size) (fun _ _ => False) (fun q => M q ∨ q = L)
    (fun pr X W h => exI_X hM hLf hBf hgl h) (fun pr X W1 W2 h hC => exI_keep hLf hBf h hC) (fun _ _ _ h _ => h) (fun W hW hsz => ⟨?_, ?_⟩) (exMid M w L B w3.heap.size) (fun pr X n a W1 W2 h hC => exMid_keep hLf hBf h hC)
    (fun l pr n rest X v W hxs hsz hi hn => exAssign hLf hBf hi hn (exI_X hM hLf hBf hgl hi).1 d3 s3 u3)
    (fun l pr n rest X a W hxs hsz hmid => exRound hc hM hgl hLf hBf (by
      have : xs.length = pr.length + (rest.length + 1) := by rw [← hxs]; simp
      omega) hmid) (fun X W hi hD => ?_) (fun _ _ h _ => h.elim))
  · refine ⟨⟨hW.os.trans b13.os, hW.tape.trans b13.tape, hW.output.trans b13.output, Nat.le_trans b13.size hW.size, fun q hq => ?_⟩, by omega, .slice none 0 0, [], o2' W hW, World.ownsRow_nil _ _ _ _, ?_, RepRow.nil _ _ _, ?_⟩
    · have hq : q < w.heap.size := by omega
      rw [hW.block q (by have := b13.size; omega)]
      exact b13.block q hq
    · intro b hb
      cases hb
    · funext q
      apply propext
      constructor
      · rintro (h | h)
        · exact .inl h
        · exact .inr (.inl h)
      · rintro (h | h | h)
        · exact .inl h
        · exact .inr h
        · cases h
  · obtain ⟨q1, q2, ys, q3, q4⟩ := hob
    refine ⟨c, q1, q2, ys, ownsRow_same q3 (fun b hb => by cases hb; exact hW.block B hB3), q4.next (Agree.of_below hW) ?_⟩
    rintro q hq ((h | h) | h | h | h)
    · exact .inl (.inl h)
    · exact .inl (.inr h)
    · omega
    · omega
    · exact .inr h
  -- behind the loop
  obtain ⟨h1, h2, v, cells, h3, h4, h5, h6, hX⟩ := hi
  obtain ⟨e0, e1, e2, e3, e4, e5, e6⟩ := ex5
  refine wpIn_seq (wpIn_region_list ?_)
  rw [e0]
  have hld := load_run (P := Tryd.prog) (w := W) (a := { A3 with defers := { target := .collected w3.heap.size, args := #[] } :: A3.defers }) e1 htl (cs := [v]) rfl u3 h3
  refine step_val (ro := none) e3 (fun c e => by rw [e1] at e; cases e) hld ?_
  rw [e2]
  refine step_val (ro := none) e6 (fun c e => by rw [e4] at e; cases e) (assign_run e4) ?_
  rw [e5]
  have s4 : ({ A3 with defers := { target := .collected w3.heap.size, args := #[] } :: A3.defers } : Act).tmps.size = 13 := s3
  have u12 : (({ A3 with defers := { target := .collected w3.heap.size, args := #[] } :: A3.defers } : Act).put (some 12) (ofCells (.list ptZ) [v])).eval (.tmp 12) = v := put_get (by rw [s4]; decide)
  rw [u12]
  have u22 : ((({ A3 with defers := { target := .collected w3.heap.size, args := #[] } :: A3.defers } : Act).put (some 12) (ofCells (.list ptZ) [v])).put (some 2) v).tmps.getD 2 undef = v := put_get (by rw [put_size, s4]; decide)
  have d4 : ((({ A3 with defers := { target := .collected w3.heap.size, args := #[] } :: A3.defers } : Act).put (some 12) (ofCells (.list ptZ) [v])).put (some 2) v).defers = { target := .collected w3.heap.size, args := #[] } :: [] := by rw [← d3]; rfl
  generalize (({ A3 with defers := { target := .collected w3.heap.size, args := #[] } :: A3.defers } : Act).put (some 12) (ofCells (.list ptZ) [v])).put (some 2) v = A4 at u22 d4
  show Code.ret.wpIn Fence.wide 0 Tryd.prog _ A4 W
  refine wpIn_ret ?_
  show LeavesInM Fence.wide 0 Tryd.prog Tryd.f10 A4.tmps _ A4.defers .returning W
  rw [d4]
  refine ⟨by simp, .inl ⟨_, _, rfl, run_takeDeferred hD, ?_⟩⟩
  have hres : (results Tryd.f10 A4.tmps).run Tryd.prog (W.putObj w3.heap.size (.deferred none)) = .ok (A4.tmps.getD 2 undef) (W.putObj w3.heap.size (.deferred none)) := results_tmp (by kernel_rfl) _ _ _
  refine ⟨_, hres, [v], by rw [u22]; rfl, ⟨⟨rfl, [v], ?_, rfl⟩, trivial⟩, ?_⟩
  · refine RepRow.list (ownsRow_same h4 (fun b hb => World.putObj_heap_other fun e => (h5 b hb).2.2 (.inl e))) (h6.next ⟨by simp, fun b hb hn => World.putObj_heap_other fun e => hn (.inr (.inl e))⟩ ?_) ?_
    · rintro q _ h
      rw [hX]
      exact .inl (.inl h)
    · intro b hb h
      have := hM b h
      have := (h5 b hb).1
      omega
  · refine ⟨h1.os, h1.tape, h1.output, by simpa using h1.size, fun q hq => ?_⟩
    rw [World.putObj_heap_other (by have := b13.size; omega)]
    exact h1.block q (by omega)

theorem enters {P : Program} {f : FuncId} {fn : Func} {c : Code} (hf : P.funcs[f]? = some fn) (hb : fn.body = some c) (hn : (fn.name == "runtime.NumGoroutine") = false) : ∀ args w, (callFunc f args).run P w = .ok (.enter f args) w := by
  intro args w
  have h : ¬ fn.name = "runtime.NumGoroutine" := by simpa using hn
  simp [callFunc, hf, h, hb]

theorem expand_contract (hc : PtCalls fl fo fs fi) (k : Nat) : Contract Tryd.prog 10 ⟨[ptQ], [.list ptZ], fun x => expandF fl fo fs fi k x⟩ := by
  intro x r hx M w vs hM hgl hvs
  obtain ⟨l, hl, h⟩ := Option.bind_eq_some_iff.1 (show (expF fl fo fs fi k x).bind _ = some r from hx)
  cases hb : (Nat.ble (l.length * 32) 140737488355328 && Nat.ble l.length 9223372036854775807) with
  | false => rw [hb] at h; cases h
  | true =>
    rw [hb] at h
    cases h
    simp only [Bool.and_eq_true, Nat.ble_eq] at hb
    match vs, hvs with
    | [v0], hvs =>
      exact .inl ⟨enters Tryd.func10 exBody (by kernel_rfl) _ _, expand_calls hc (enters Tryd.func31 paBody (by kernel_rfl)) (enters Tryd.func52 ptBody (by kernel_rfl)) hl hb hM hgl hvs.1⟩
end
end Go.FK
