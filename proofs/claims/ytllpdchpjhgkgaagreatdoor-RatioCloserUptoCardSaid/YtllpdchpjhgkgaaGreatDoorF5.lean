import Derived.Test.YtllpdchpjhgkgaaGreatDoorF4
import Derived.RangeFuncKeeps
import Derived.RangeFuncLeaves
import Derived.TacticsIn
import Derived.OrdersIn
import Derived.Test.YtllpdchpjhgkgaaGreatDoorF1
/- A range over an iterator that keeps its own state in a block: the iterator's contract, and the law of the caller. -/
namespace Go.FK
open Go.RowKit

variable {P : Program} {E : Type}

/-- Nothing turns but blocks of S, and new ones. -/
def Chg (S : Nat → Prop) (w w' : World) : Prop := Beyond (fun q => S q ∨ w.heap.size ≤ q) w w'
theorem Chg.block {S : Nat → Prop} {w w' : World} (h : Chg S w w') {b : Nat} (hb : b < w.heap.size) (hn : ¬ S b) : w'.heap[b]? = w.heap[b]? := Beyond.block h b fun e => e.elim hn (fun e => by omega)
theorem Chg.agree {S : Nat → Prop} {w w' : World} (h : Chg S w w') : Agree S w w' := ⟨Beyond.size h, fun _ hb hn => h.block hb hn⟩
theorem Chg.mono {S S' : Nat → Prop} {w w' : World} (h : Chg S w w') (hS : ∀ q, S q → S' q) : Chg S' w w' := ⟨Beyond.os h, Beyond.tape h, Beyond.output h, Beyond.size h, fun _ hk => Beyond.block h _ fun e => hk (e.imp (hS _) id)⟩
theorem Chg.refl (S : Nat → Prop) (w : World) : Chg S w w := Beyond.refl _ _
theorem Chg.trans {S : Nat → Prop} {a b c : World} (h : Chg S a b) (k : Chg S b c) : Chg S a c := by
  refine Beyond.trans h ⟨Beyond.os k, Beyond.tape k, Beyond.output k, Beyond.size k, fun q hq => Beyond.block k q fun e => hq (e.imp id fun e => Nat.le_trans (Beyond.size h) e)⟩
theorem Chg.of_below {S : Nat → Prop} {w w' : World} (h : Below w.heap.size w w') : Chg S w w' := Beyond.of_below h fun _ h => .inr h

/-- The places that the rounds may write (X), and the iterator's own. -/
def Plus (X : Nat → Prop) (B : Nat) : Nat → Prop := fun q => X q ∨ q = B

/-- **The iterator's contract**: it hands the elements of xs to yield, one after another, and stops where a round says 'no more'; it writes its own block B alone. J: what the caller keeps between two rounds. -/
def ItOk (P : Program) (gf : FuncId) (lb : Array Value) (B : Nat) (rep : (Nat → Prop) → World → E → Value → Prop) (xs : List E) (st : (Nat → Prop) → World → Prop) : Prop :=
  ∀ (l : Nat) (J : List E → (Nat → Prop) → World → Prop) (Jx : World → Prop) (X : Nat → Prop) (W : World),
    (∀ pr X W1, J pr X W1 → (∀ q, X q → q < W1.heap.size) ∧ ¬ X B ∧ Gl (Plus X B) W1) →
    (∀ pr X W1 W2, J pr X W1 → Chg (· = B) W1 W2 → J pr X W2) → (∀ W1 W2, Jx W1 → Chg (· = B) W1 W2 → Jx W2) →
    (∀ pr x rest X v W1, pr ++ x :: rest = xs → J pr X W1 → rep (Plus X B) W1 x v → YieldAt Fence.wide 0 P l #[v] W1 fun e W' =>
      (e = .returned (.bool true) ∧ ∃ X', J (pr ++ [x]) X' W' ∧ Chg X W1 W' ∧ ∀ q, q < W1.heap.size → X' q → X q) ∨ (e = .returned (.bool false) ∧ Jx W')) →
    J [] X W → st (Plus X B) W →
    CallsIn Fence.wide 0 P gf (#[.func (.yield l) #[] #[]] ++ lb) W fun e W' => (∃ v, e = .returned v) ∧ ((∃ X', J xs X' W') ∨ Jx W')

/-- How the body of a round may be left. -/
def bodyR (I : List E → (Nat → Prop) → World → Prop) (Ix : Code → World → Prop) (K : World → Prop) (xs : List E) (X : Nat → Prop) (W : World) : Exit → Act → World → Prop
  | .normal, _, W' => K W' ∧ ∃ X', I xs X' W' ∧ Chg X W W' ∧ ∀ q, q < W.heap.size → X' q → X q
  | .ret, _, W' => K W' ∧ Ix .ret W'
  | .exit id, _, W' => K W' ∧ Ix (.exit id) W'
  | .goto t, _, W' => K W' ∧ Ix (.goto t) W'
  | .panic _, _, _ => False
  | .outgrown, _, _ => False

/-- The blocks that the loop itself lays where the heap had n blocks: its rounds' calls put off, its record. -/
def Own2 (n : Nat) (B : Nat) : Nat → Prop := fun q => q = n ∨ q = n + 1 ∨ q = B

/-- **The law of the caller.** -/
theorem range_law {g : Operand} {p : Tmp} {assign body : Code} {Q : Exit → Act → World → Prop} {a : Act} {w : World} {gf : FuncId} {lb : Array Value} {B : Nat} {rep : (Nat → Prop) → World → E → Value → Prop} {xs : List E} {st : (Nat → Prop) → World → Prop}
    (hg : a.eval g = .func (.func gf) #[] lb) (eg : ∀ args w, (callFunc gf args).run P w = .ok (.enter gf args) w) (hit : ItOk P gf lb B rep xs st) (hB : B < w.heap.size)
    (_hrep : ∀ M M' W W' x v, rep M W x v → Agree M W W' → (∀ q, q < W.heap.size → M' q → M q) → rep M' W' x v)
    (I : List E → (Nat → Prop) → World → Prop) (Ix : Code → World → Prop) (X : Nat → Prop)
    (hIX : ∀ pr X W, I pr X W → (∀ q, X q → q < W.heap.size) ∧ ¬ X B ∧ ¬ X w.heap.size ∧ ¬ X (w.heap.size + 1) ∧ Gl (fun q => X q ∨ Own2 w.heap.size B q) W)
    (hI : ∀ pr X W1 W2, I pr X W1 → Chg (Own2 w.heap.size B) W1 W2 → I pr X W2) (hIx : ∀ c W1 W2, Ix c W1 → Chg (Own2 w.heap.size B) W1 W2 → Ix c W2)
    (h0 : ∀ W, Below w.heap.size w W → w.heap.size + 2 = W.heap.size → I [] X W ∧ st (fun q => X q ∨ Own2 w.heap.size B q) W)
    (Mid : List E → (Nat → Prop) → E → Act → World → Prop) (hMid : ∀ pr X x a W1 W2, Mid pr X x a W1 → Chg (Own2 w.heap.size B) W1 W2 → Mid pr X x a W2)
    (hassign : ∀ (l : Nat) (pr : List E) (x : E) (rest : List E) (X : Nat → Prop) (v : Value) (W : World), pr ++ x :: rest = xs → w.heap.size + 2 ≤ W.heap.size → I pr X W → rep (fun q => X q ∨ Own2 w.heap.size B q) W x v →
      assign.wpIn (Fence.wide.inRound l) 0 P (Exit.then (fun a₁ W1 => Mid pr X x a₁ W1 ∧ Chg (fun _ => False) W W1) (fun _ _ _ => False)) { tmps := a.tmps.setIfInBounds p v, defers := [] } W)
    (hbody : ∀ (l : Nat) (pr : List E) (x : E) (rest : List E) (X : Nat → Prop) (a₁ : Act) (W : World), pr ++ x :: rest = xs → w.heap.size + 2 ≤ W.heap.size → Mid pr X x a₁ W →
      body.wpIn (Fence.wide.inRound l) 0 P (bodyR I Ix (fun W' => W'.heap[w.heap.size]? = W.heap[w.heap.size]? ∧ W'.heap[w.heap.size + 1]? = W.heap[w.heap.size + 1]?) (pr ++ [x]) X W) a₁ W)
    (hdone : ∀ (X : Nat → Prop) (W : World), I xs X W → W.heap[w.heap.size]? = some (.deferred (some [])) → Q .normal { a with defers := { target := .collected w.heap.size, args := #[] } :: a.defers } W)
    (hstop : ∀ (c : Code) (W : World), Ix c W → W.heap[w.heap.size]? = some (.deferred (some [])) → c.wpIn Fence.wide 0 P Q { a with defers := { target := .collected w.heap.size, args := #[] } :: a.defers } W) :
    (Code.rangeFunc g #[p] assign body).wpIn Fence.wide 0 P Q a w := by
  refine wpIn_rangeFunc ?_
  intro fn hfn
  obtain ⟨rec, hrec⟩ : ∃ rec : LoopState → Option Code → Loop, rec = fun st pe => { state := st, pending := pe, fn, tmps := a.tmps, params := #[p], assign, body, defers := w.heap.size } := ⟨_, rfl⟩
  obtain ⟨W1, hW1⟩ : ∃ W1, (w.alloc (.deferred (some []))).alloc (.loop (rec .ready none)) = W1 := ⟨_, rfl⟩
  have hL1 : W1.heap[w.heap.size + 1]? = some (.loop (rec .ready none)) := by
    rw [← hW1]; have := World.alloc_heap_new (w.alloc (.deferred (some []))) (.loop (rec .ready none)); rwa [World.size_alloc] at this
  have hK1 : W1.heap[w.heap.size]? = some (.deferred (some [])) := by
    rw [← hW1]; exact (Below.heap_alloc _ _ _ (by simp)).trans (World.alloc_heap_new w _)
  have hsz1 : w.heap.size + 2 = W1.heap.size := by rw [← hW1]; simp
  have hb1 : Below w.heap.size w W1 := by
    rw [← hW1]; exact (((Below.refl _ w).alloc (Nat.le_refl _) _).alloc (by simp) _)
  obtain ⟨hI1, hst1⟩ := h0 W1 hb1 hsz1
  have agP : ∀ (W : World) (o : Obj), Chg (Own2 w.heap.size B) W (W.putObj (w.heap.size + 1) o) := fun W o => ⟨rfl, rfl, rfl, by simp, fun b hb => World.putObj_heap_other fun e => hb (.inl (.inr (.inl e)))⟩
  refine ⟨w.heap.size + 1, [{ target := .collected w.heap.size, args := #[] }], W1, { target := .fn (.func gf) lb, args := #[.func (.yield (w.heap.size + 1)) #[] #[]] }, W1, gf,
    #[.func (.yield (w.heap.size + 1)) #[] #[]] ++ lb, W1, ?_, ?_, ?_, ?_, fun h => by simp [Fence.wide] at h, ?_⟩
  · rw [← hW1, hrec]; exact run_enterLoop_outer _ _ _ _ _
  · simp only [resolve, hg]
    simp [go_sem]
  · intro f' hf'; trivial
  · simp [invoke, go_sem, eg]
  · -- THE ITERATOR's CONTRACT
    have split : ∀ {X : Nat → Prop}, (fun q => X q ∨ Own2 w.heap.size B q) = Plus (fun q => X q ∨ q = w.heap.size ∨ q = w.heap.size + 1) B := by
      intro X
      funext q
      apply propext
      unfold Plus Own2
      constructor
      · rintro (h | h | h | h)
        · exact .inl (.inl h)
        · exact .inl (.inr (.inl h))
        · exact .inl (.inr (.inr h))
        · exact .inr h
      · rintro ((h | h | h) | h)
        · exact .inl h
        · exact .inr (.inl h)
        · exact .inr (.inr (.inl h))
        · exact .inr (.inr (.inr h))
    have agB : ∀ {W2 W3 : World}, Chg (· = B) W2 W3 → Chg (Own2 w.heap.size B) W2 W3 := fun h => h.mono fun q e => .inr (.inr e)
    have keep : ∀ {W2 W3 : World} {k : Nat} {o : Obj}, Chg (· = B) W2 W3 → k ≠ B → W2.heap[k]? = some o → W3.heap[k]? = some o := fun h hk ho => (h.block (Array.getElem?_eq_some_iff.1 ho).1 hk).trans ho
    refine (hit (w.heap.size + 1)
      (fun pr X W => ∃ X0, X = (fun q => X0 q ∨ q = w.heap.size ∨ q = w.heap.size + 1) ∧ I pr X0 W ∧ W.heap[w.heap.size + 1]? = some (.loop (rec .ready none)) ∧ W.heap[w.heap.size]? = some (.deferred (some [])))
      (fun W => ∃ c, Ix c W ∧ W.heap[w.heap.size + 1]? = some (.loop (rec .done (some c))) ∧ W.heap[w.heap.size]? = some (.deferred (some [])))
      (fun q => X q ∨ q = w.heap.size ∨ q = w.heap.size + 1) W1 ?_ ?_ ?_ ?_ ⟨X, rfl, hI1, hL1, hK1⟩ (by rw [← split]; exact hst1)).mono ?_
    · rintro pr X W ⟨X0, rfl, hi, hl, hk⟩
      obtain ⟨i1, i2, i3, i4, i5⟩ := hIX pr X0 W hi
      have hlt : w.heap.size + 1 < W.heap.size := (Array.getElem?_eq_some_iff.1 hl).1
      refine ⟨?_, ?_, by rw [← split]; exact i5⟩
      · rintro q (h | rfl | rfl)
        · exact i1 q h
        · omega
        · exact hlt
      · rintro (h | h | h)
        · exact i2 h
        · omega
        · omega
    · rintro pr X W2 W3 ⟨X0, rfl, hi, hl, hk⟩ hA
      exact ⟨X0, rfl, hI _ _ _ _ hi (agB hA), keep hA (by omega) hl, keep hA (by omega) hk⟩
    · rintro W2 W3 ⟨c, hi, hl, hk⟩ hA
      exact ⟨c, hIx _ _ _ hi (agB hA), keep hA (by omega) hl, keep hA (by omega) hk⟩
    · -- ONE ROUND
      rintro pr x rest X v W hxs ⟨X0, rfl, hi, hl, hk⟩ hr
      obtain ⟨i1, i2, i3, i4, i5⟩ := hIX pr X0 W hi
      have hlt : w.heap.size + 1 < W.heap.size := (Array.getElem?_eq_some_iff.1 hl).1
      have hy := run_yield (P := P) (args := #[v]) hl (by rw [hrec]; rfl)
      rw [hrec] at hy
      have hz : (#[p].zip #[v]).foldl (fun tmps (x : Tmp × Value) => match x with | (t, a) => tmps.setIfInBounds t a) a.tmps = a.tmps.setIfInBounds p v := by simp
      have hy : (Instr.yield (w.heap.size + 1) #[v]).run P W = .ok (.round (w.heap.size + 1) fn (a.tmps.setIfInBounds p v) assign body) W := by rw [hy]; simp only [hz]
      have hr2 : rep (fun q => X0 q ∨ Own2 w.heap.size B q) W x v := by
        rw [← split] at hr
        exact hr
      refine ⟨fn, _, assign, body, hy, roundIn_of_wpIn hfn (wpIn_mono (hassign _ pr x rest X0 v W hxs (by omega) hi hr2) fun e a1 Wa he => ?_)⟩
      cases e with
      | normal => ?_
      | _ => exact he
      obtain ⟨hmid, hca⟩ := he
      have hla : Wa.heap[w.heap.size + 1]? = some (.loop (rec .ready none)) := (hca.block hlt (fun h => h)).trans hl
      have hka : Wa.heap[w.heap.size]? = some (.deferred (some [])) := (hca.block (by omega) (fun h => h)).trans hk
      have hlta : w.heap.size + 1 < Wa.heap.size := (Array.getElem?_eq_some_iff.1 hla).1
      refine ⟨_, run_beginRound hla (by rw [hrec]), ?_⟩
      have hl2 : (Wa.putObj (w.heap.size + 1) (.loop { rec .ready none with state := .busy })).heap[w.heap.size + 1]? = some (.loop { rec .ready none with state := .busy }) := World.putObj_heap_same hlta
      have hk2 : (Wa.putObj (w.heap.size + 1) (.loop { rec .ready none with state := .busy })).heap[w.heap.size]? = some (.deferred (some [])) := (World.putObj_heap_other (by omega)).trans hka
      have hA2 := agP Wa (.loop { rec .ready none with state := .busy })
      refine wpIn_mono (hbody _ pr x rest X0 a1 _ hxs (by simp; omega) (hMid _ _ _ _ _ _ hmid hA2)) ?_
      have fin : ∀ (jump : Option Code) (W3 : World), W3.heap[w.heap.size]? = (Wa.putObj (w.heap.size + 1) (.loop { rec .ready none with state := .busy })).heap[w.heap.size]? ∧ W3.heap[w.heap.size + 1]? = (Wa.putObj (w.heap.size + 1) (.loop { rec .ready none with state := .busy })).heap[w.heap.size + 1]? →
          (Instr.endRound (w.heap.size + 1) jump).run P W3 = .ok (.bool jump.isNone) (W3.putObj (w.heap.size + 1) (.loop (rec (if jump.isNone then .ready else .done) jump))) ∧
          (W3.putObj (w.heap.size + 1) (.loop (rec (if jump.isNone then .ready else .done) jump))).heap[w.heap.size + 1]? = some (.loop (rec (if jump.isNone then .ready else .done) jump)) ∧
          (W3.putObj (w.heap.size + 1) (.loop (rec (if jump.isNone then .ready else .done) jump))).heap[w.heap.size]? = some (.deferred (some [])) := fun jump W3 hk3 => by
        have hl3 := hk3.2.trans hl2
        have := run_endRound (P := P) jump hl3
        rw [hrec] at this ⊢
        exact ⟨this, World.putObj_heap_same (Array.getElem?_eq_some_iff.1 hl3).1, (World.putObj_heap_other (by omega)).trans (hk3.1.trans hk2)⟩
      rintro e a3 W3 hp
      cases e with
      | normal =>
        obtain ⟨hk3, X', hi3, hA3, hX3⟩ := hp
        obtain ⟨hr, hl4, hk4⟩ := fin none W3 hk3
        refine ⟨_, _, hr, .inl ⟨rfl, _, ⟨X', rfl, hI _ _ _ _ hi3 (agP _ _), hl4, hk4⟩, ⟨?_, ?_, ?_, ?_, fun b hb => ?_⟩, fun q hq h => ?_⟩⟩
        · have e := Beyond.os hA3
          have e2 := Beyond.os hca
          exact Eq.trans (b := Wa.os) e e2
        · have e := Beyond.tape hA3
          have e2 := Beyond.tape hca
          exact Eq.trans (b := Wa.tape) e e2
        · have e := Beyond.output hA3
          have e2 := Beyond.output hca
          exact Eq.trans (b := Wa.output) e e2
        · have := Beyond.size hA3
          have h2 := Beyond.size hca
          simp at this ⊢
          exact Nat.le_trans h2 this
        · simp only [not_or] at hb
          have h2 := Beyond.size hca
          rw [World.putObj_heap_other hb.1.2.2, hA3.block (by simp; omega) hb.1.1, World.putObj_heap_other hb.1.2.2]
          exact hca.block (by omega) (fun h => h)
        · rcases h with h | h
          · exact .inl (hX3 q (by have h2 := Beyond.size hca; simp; omega) h)
          · exact .inr h
      | ret =>
        obtain ⟨hk3, hi3⟩ := hp
        obtain ⟨hr, hl4, hk4⟩ := fin (some .ret) W3 hk3
        exact ⟨_, _, hr, .inr ⟨rfl, .ret, hIx _ _ _ hi3 (agP _ _), hl4, hk4⟩⟩
      | exit id =>
        obtain ⟨hk3, hi3⟩ := hp
        obtain ⟨hr, hl4, hk4⟩ := fin (some (.exit id)) W3 hk3
        exact ⟨_, _, hr, .inr ⟨rfl, .exit id, hIx _ _ _ hi3 (agP _ _), hl4, hk4⟩⟩
      | goto t =>
        obtain ⟨hk3, hi3⟩ := hp
        obtain ⟨hr, hl4, hk4⟩ := fin (some (.goto t)) W3 hk3
        exact ⟨_, _, hr, .inr ⟨rfl, .goto t, hIx _ _ _ hi3 (agP _ _), hl4, hk4⟩⟩
      | panic ch => exact hp.elim
      | outgrown => exact hp.elim
    · -- BEHIND THE ITERATOR
      rintro e W2 ⟨⟨v, rfl⟩, (⟨X', X0, rfl, hi, hl, hk⟩ | ⟨c, hi, hl, hk⟩)⟩
      · exact ⟨none, _, by have := run_endLoop (P := P) hl (by rw [hrec]; simp); rw [hrec] at this; exact this, hdone X0 _ (hI _ _ _ _ hi (agP _ _)) ((World.putObj_heap_other (by omega)).trans hk)⟩
      · exact ⟨some c, _, by have := run_endLoop (P := P) hl (by rw [hrec]; simp); rw [hrec] at this; exact this, hstop c _ (hIx _ _ _ hi (agP _ _)) ((World.putObj_heap_other (by omega)).trans hk)⟩

end Go.FK

/- Pieces of code at a frame of a round, and around a call of yield. -/
namespace Go.FK
open Go.RowKit

variable {P : Program} {X R : Type} {nt : NT}

/-- The wide fence, in a round or not. -/
def Wd (ro : Option Nat) : Fence := { Fence.wide with round := ro }
theorem Wd_none : Wd none = Fence.wide := rfl
theorem Wd_some (l : Nat) : Wd (some l) = Fence.wide.inRound l := rfl

theorem calls_in {ro : Option Nat} {n : Nat} {f : FuncId} {args : Array Value} {w : World} {Z : Ending → World → Prop} (h : Calls P f args w Z) : CallsIn (Wd ro) n P f args w Z :=
  (callsIn_wide (n := n)).2 h
theorem rows_in {ro : Option Nat} {n : Nat} {row : String} {args : Array Value} {w : World} {Z : Value → World → Prop} (h : Go.Rows P row args w Z) : RowsIn (Wd ro) n P row args w Z :=
  fun c cs _ => let ⟨v, w', r, s⟩ := h c cs; ⟨v, w', r, stepsIn_wide.2 s⟩

/-- An operation that is carried out everywhere is so in a round. -/
theorem wp_in {o : Oper} {ro : Option Nat} {n : Nat} {a : Act} {w : World} {next : Act → World → Prop} {Q : Exit → Act → World → Prop} (hd : ∀ c, o.op ≠ .defer c) (h : o.wp P a w next Q) : o.wpIn (Wd ro) n P a w next Q := by
  refine ⟨fun _ _ => trivial, ?_⟩
  rw [Oper.semAt_eq _ _ _ hd]
  unfold Oper.wp at h
  generalize (execOp a.eval o).run P w = r at *
  cases r with
  | ok x w' =>
    cases x <;> simp only [Oper.upon] at h <;> simp only [Oper.uponIn]
    all_goals first
      | exact h
      | exact ⟨fun h => by simp [Wd, Fence.wide] at h, calls_in h⟩
      | exact ⟨fun h => by simp [Wd, Fence.wide] at h, rows_in h⟩
  | halt x w' => cases x <;> simp only [Oper.upon] at h <;> simp only [Oper.uponIn] <;> exact h

/-- No operation puts off a call. -/
def noDef : List Oper → Bool
  | [] => true
  | o :: l => (match o.op with | .defer _ => false | _ => true) && noDef l
theorem noDef_cons {o : Oper} {l : List Oper} (h : noDef (o :: l) = true) : (∀ c, o.op ≠ .defer c) ∧ noDef l = true := by
  simp only [noDef, Bool.and_eq_true] at h
  refine ⟨fun c e => ?_, h.2⟩
  have := h.1
  rw [e] at this
  cases this

/-- The first operations of a region, in whatever frame; what comes behind them is walked otherwise. -/
theorem piece_in {E : Env X} (hty : ∀ T ti, E.ty T = some ti → TyOk P T ti) (hfn : FnsOk P E) {ops : Array Oper} {n0 : Nat} {K : St → Option R} {r : R} {ro : Option Nat} {M0 : Nat → Prop} {b0 : Nat → Prop} {w0 : World} {Q : Exit → Act → World → Prop} {l2 : List Oper}
    (hQ : ∀ s' a' w', K s' = some r → Matches M0 b0 w0 nt s' a' w' → wpListIn (Wd ro) 0 P ops Q l2 a' w') :
    ∀ (l : List Oper) (bs : List (Option Nat)) (s : St) (a : Act) (w : World), noDef l = true → runOps E ops.toList n0 l bs s K = some r → Matches M0 b0 w0 nt s a w → wpListIn (Wd ro) 0 P ops Q (l ++ l2) a w
  | [], _, _, _, _, _, h, hm => hQ _ _ _ (by simpa [runOps] using h) hm
  | o :: rest, bs, _, a, w, hd, h, hm => by
    have hdd := noDef_cons hd
    have := step_strict hty hfn (Q := Q) h hm (next := wpListIn (Wd ro) 0 P ops Q (rest ++ l2)) fun s' a' w' _ h' hm' => piece_in hty hfn hQ rest (bs.drop 1) s' a' w' hdd.2 h' hm'
    have e : ops.toList.toArray = ops := by simp
    rw [e] at this
    show wpListIn (Wd ro) 0 P ops Q (o :: (rest ++ l2)) a w
    unfold wpListIn
    split
    · rename_i hw
      rw [if_pos hw] at this
      exact wp_in hdd.1 this
    · rename_i hw
      rw [if_neg hw] at this
      exact ⟨fun _ _ => trivial, this⟩

/-- A region whose order is the text's, in whatever frame. -/
theorem region_in {E : Env X} (hty : ∀ T ti, E.ty T = some ti → TyOk P T ti) (hfn : FnsOk P E) {id : Nat} {ops : Array Oper} {s : St} {K : St → Option R} {r : R} (h : regionK E ops.toList false s K = some r) (hd : noDef ops.toList = true) {ro : Option Nat}
    {M0 : Nat → Prop} {b0 : Nat → Prop} {w0 : World} {a : Act} {w : World} (hm : Matches M0 b0 w0 nt s a w) {Q : Exit → Act → World → Prop} (hQ : ∀ s' a' w', K s' = some r → Matches M0 b0 w0 nt s' a' w' → Q .normal a' w') : (Code.region id ops false).wpIn (Wd ro) 0 P Q a w := by
  unfold regionK at h
  simp only [force_eq, cond_false] at h
  refine wpIn_region_list ?_
  have := piece_in (l2 := []) (Q := Q) hty hfn (ro := ro) (fun s' a' w' h1 h2 => (hQ s' a' w' h1 h2 : Q .normal a' w')) ops.toList [] _ a w hd h (freeze_sound _ s hm)
  simpa using this

end Go.FK

/- A state taken up again behind a round; a loop whose rounds are counted by something unseen. -/
namespace Go.FK
open Go.RowKit

variable {P : Program} {nt : NT}

theorem wpIn_loop_n {F : Fence} {n : Nat} {c : Code} {Q : Exit → Act → World → Prop} {a : Act} {w : World} (J : Nat → Act → World → Prop) (N : Nat) (h0 : J N a w)
    (hs : ∀ m a w, J m a w → c.wpIn F n P (Exit.then (fun a' w' => ∃ m', m' < m ∧ J m' a' w') Q) a w) : (Code.loop c).wpIn F n P Q a w := by
  intro b k cs hro hb hr
  have key : ∀ j a w, J j a w → ∃ e a' w', Q e a' w' ∧ ArrivesIn (Machine.fenced P F) P (lone (b.atR a (.code c :: .inLoop c :: k)) cs w) b k cs e a' w' := by
    intro j
    induction j using Nat.strongRecOn with
    | _ j ih =>
      intro a w hI
      obtain ⟨e, a₁, w₁, hq, harr⟩ := hs j a w hI b (.inLoop c :: k) cs hro hb hr
      cases e with
      | normal =>
        obtain ⟨m', hlt, hI₁⟩ := hq
        obtain ⟨e₂, a₂, w₂, hq₂, harr₂⟩ := ih m' hlt a₁ w₁ hI₁
        exact ⟨e₂, a₂, w₂, hq₂, .of_steps (StepsIn.trans harr (.one (fenced_calm hb hr rfl) stepR_inLoop)) harr₂⟩
      | exit id => exact ⟨_, a₁, w₁, hq, .pass (x := .inLoop c) rfl (fun _ _ => .inl (by simp)) harr⟩
      | goto l => exact ⟨_, a₁, w₁, hq, .pass (x := .inLoop c) rfl (fun _ _ => .inl (by simp)) harr⟩
      | ret => exact ⟨_, a₁, w₁, hq, .pass (x := .inLoop c) rfl (fun _ _ => .inl (by simp)) harr⟩
      | panic ch => exact ⟨_, a₁, w₁, hq, .pass (x := .inLoop c) rfl (fun _ _ => .inl (by simp)) harr⟩
      | outgrown => exact ⟨_, a₁, w₁, hq, .pass (x := .inLoop c) rfl (fun _ _ => .inl (by simp)) harr⟩
  obtain ⟨e, a', w', hq, harr⟩ := key N a w h0
  exact ⟨e, a', w', hq, .of_steps (.one (fenced_calm hb hr rfl) stepR_loop) harr⟩

theorem ownsRow_same {w w' : World} {base : Nat} {e : TypeId} {size : Nat} {v : Value} {n : Nat} {xs : List Value} (h : w.ownsRow base e size v n xs) (hb : ∀ b, v.ownBlock = some b → w'.heap[b]? = w.heap[b]?) : w'.ownsRow base e size v n xs := by
  refine ⟨h.1, h.2.imp id ?_⟩
  rintro ⟨g, cap, cur, e1, e2, e3, e4⟩
  exact ⟨g, cap, cur, e1, e2, (hb g (by rw [e1]; rfl)).trans e3, e4⟩

/-- What becomes of a slot. -/
inductive Slot (s : St) : AV → AV → Prop
  | bad (a : AV) : Slot s a .bad
  | fn (f : FuncId) : Slot s (.fn f) (.fn f)
  | fnv (f : FuncId) (x : Unit) : Slot s (.val (.fnc f) x) (.fn f)
  | cap (p : List Nat) : Slot s (.ptr 0 0 p) (.ptr 0 0 p)
  | val (t : Ty) (x : t.D) : Slot s (.val t x) (.val t x)
  | mem (id : Nat) (e : TypeId) (t : Ty) (x : t.D) (h0 : id ≠ 0) (h : nthD none s.obs id = some ⟨e, t, [x]⟩) (ht : t.ok false = true) : Slot s (.ptr id 0 []) (.mem t x)

/-- Behind a round (or anything else that turns what the caller may turn): the first object stays one, the others are data by now. -/
theorem rebase {M0 : Nat → Prop} {b0 : Nat → Prop} {w0 w w' : World} {s s' : St} {a : Act} {row : Value} {B : Nat} (hrow : row.ownBlock = some B) (hm : Matches M0 b0 w0 nt s a w) (hro : nt.ro = [row]) {ob : Ob} (h0 : nthD none s.obs 0 = some ob) (hok : ob.t.ok false = true)
    {X' : Nat → Prop} (hC : Chg M0 w w') (hX : ∀ q, q < w.heap.size → X' q → M0 q) (hXB : ¬ X' B) (hXs : ∀ q, X' q → q < w'.heap.size) (hgl : Gl (Plus X' B) w') (hobs : s'.obs = [some ob]) (hlen : s'.fr.length = s.fr.length) (hfr : ∀ t, Slot s (nthD .bad s.fr t) (nthD .bad s'.fr t)) :
    Matches X' (fun q => w'.heap.size ≤ q ∨ q = B) w' nt s' a w' := by
  obtain ⟨h1, h2, h3, hn3, ν, hw, hg, hr⟩ := hm
  have hν : ν 0 = row := (hw 0 row (by rw [hro]; rfl)).2
  have h0' : obF s.obs 0 = some ob := h0
  obtain ⟨q1, q2, xs, q3, q4⟩ := hg.ob 0 ob h0'
  rw [hν] at q3
  have hbB : b0 B := q3.2 B hrow
  have hBM : ¬ M0 B := fun h => hg.m0 B h hbB
  have hBlt : B < w.heap.size := (q3.1.lt B hrow).2
  have hF : ∀ id ob2, obF s'.obs id = some ob2 → id = 0 ∧ ob2 = ob := by
    intro id ob2 h2
    rw [hobs] at h2
    cases id with
    | zero => exact ⟨rfl, by simpa [obF, nthD] using h2.symm⟩
    | succ id => simp [obF, nthD] at h2
  have hMs : ∀ q, Msum X' (fun _ => row) (obF s'.obs) q → X' q ∨ q = B := by
    rintro q (h | ⟨id, ob2, _, h⟩)
    · exact .inl h
    · rw [hrow] at h
      exact .inr (Option.some.inj h).symm
  have hM : ∀ q, q < w.heap.size → Msum X' (fun _ => row) (obF s'.obs) q → Msum M0 ν (obF s.obs) q := by
    intro q hq h
    rcases hMs q h with h | rfl
    · exact .inl (hX q hq h)
    · exact .inr ⟨0, ob, h0', by rw [hν]; exact hrow⟩
  have hA : Agree (Msum M0 ν (obF s.obs)) w w' := ⟨hC.agree.size, fun q hq hn => hC.block hq fun h => hn (.inl h)⟩
  have hrow' : ownsO (fun q => w'.heap.size ≤ q ∨ q = B) w' ob.e ob.t row ob.l.length xs :=
    ⟨.of hok (ownsRow_same (q3.1.1 hok) fun b hb => by rw [hrow] at hb; cases hb; exact hC.block hBlt hBM), fun b hb => by rw [hrow] at hb; cases hb; exact .inr rfl⟩
  refine ⟨h1, Beyond.refl _ _, h3.trans hlen.symm, hn3, fun _ => row, fun j v hj => ?_, ⟨fun q hq => ?_, hgl.next (Nat.le_refl _) (fun _ _ _ => rfl) (fun q hq h => ?_), fun q hq => .inl hq, fun id ob2 ho => ?_, fun i j obi obj hi hj hij => ?_⟩, fun t => ?_⟩
  · rw [hro] at hj
    cases j with
    | zero => simp at hj; exact ⟨by rw [hobs]; simp, hj⟩
    | succ j => simp at hj
  · rintro (h | rfl)
    · have := hXs q hq; omega
    · exact hXB hq
  · rcases h with h | h | h
    · exact .inl h
    · omega
    · exact .inr h
  · obtain ⟨rfl, rfl⟩ := hF id ob2 ho
    exact ⟨q1, q2, xs, hrow', q4.next hA hM⟩
  · obtain ⟨rfl, _⟩ := hF i obi hi
    obtain ⟨rfl, _⟩ := hF j obj hj
    exact absurd rfl hij
  · have hrt := hr t
    have hst := hfr t
    generalize nthD AV.bad s.fr t = av at hrt hst
    generalize nthD AV.bad s'.fr t = av' at hst
    cases hst with
    | bad => trivial
    | fn f => exact hrt
    | fnv f x =>
      obtain ⟨_, cs, h1, h2⟩ := hrt
      have h1 : cs = [fV f] := h1
      subst h1
      exact h2
    | val ty x => exact RepV.next hA hM hrt
    | cap p =>
      obtain ⟨_, h⟩ := hrt
      obtain ⟨k1, g, n, c, k2, k3⟩ := h ob h0'
      refine ⟨by rw [hobs]; exact Nat.zero_lt_one, fun ob2 ho2 => ?_⟩
      obtain ⟨_, rfl⟩ := hF 0 ob2 ho2
      exact ⟨k1, g, n, c, by rw [← k2, hν], k3⟩
    | mem id e ty x hid hob hty =>
      obtain ⟨_, h⟩ := hrt
      have hob' : obF s.obs id = some ⟨e, ty, [x]⟩ := hob
      obtain ⟨_, g, n, c, k2, k3⟩ := h _ hob'
      obtain ⟨r1, r2, ys, r3, r4⟩ := hg.ob id _ hob'
      rw [k2] at r3
      have hgb : b0 g := r3.2 g rfl
      have hglt : g < w.heap.size := (r3.1.lt g rfl).2
      have hgM : ¬ M0 g := fun h => hg.m0 g h hgb
      have hgB : g ≠ B := by
        rintro rfl
        exact hg.ne id 0 _ _ hob' h0' hid g (by rw [k2]; rfl) (by rw [hν]; exact hrow)
      refine ⟨hty, ⟨g, 0, none⟩, seg ys 0 ty.sz, ?_, Nat.lt_of_lt_of_le hglt hC.agree.size, ?_, ?_, fun j u hj => ?_⟩
      · rw [k3]
        simp [offP]
      · intro hq
        rcases hMs g hq with hq | hq
        · exact hgM (hX g hglt hq)
        · exact hgB hq
      · have := r4.2 0 x rfl
        rw [Nat.zero_mul] at this
        exact Rep.next hA hM _ _ _ this
      · rw [seg_getElem] at hj
        split at hj
        · rw [Nat.zero_add] at hj
          have := (r3.1.1 hty).cells (g := g) rfl j u hj
          exact hC.agree.cell (by rw [block_add]; exact hgM) this
        · cases hj

theorem Matches.put {M0 : Nat → Prop} {b0 : Nat → Prop} {w0 w : World} {s : St} {a : Act} (hm : Matches M0 b0 w0 nt s a w) (dst : Option Tmp) {av : AV} {v : Value} (hv : ∀ M ν dom obs w, RepA M ν dom obs w av v) : Matches M0 b0 w0 nt ⟨FK.put s.fr dst av, s.obs⟩ (a.put dst v) w := by
  obtain ⟨h1, h2, h3, hn3, ν, hw, hg, hr⟩ := hm
  exact put_matches h1 h2 h3 hn3 hw hg hr dst (hv _ _ _ _ _)

/-- A call of yield is what Instr says of it. -/
theorem yield_run {o : Oper} {a : Act} {w : World} {f x : Operand} {T : TypeId} {l : Nat} (ho : o.op = .call ⟨.value f, #[x], #[T]⟩) (hf : a.eval f = .func (.yield l) #[] #[]) : (o.semAt none a.eval).run P w = (Instr.yield l #[a.eval x]).run P w := by
  rw [Oper.semAt_none]
  obtain ⟨dst, op, ty, pos, af, gd⟩ := o
  simp only at ho
  subst ho
  simp [execOp, resolve, hf, Deferred.ofValue, invoke]

theorem not_run {o : Oper} {a : Act} {w : World} {x : Operand} {T : TypeId} {b : Bool} (ho : o.op = .unOp .not T x) (hx : a.eval x = .bool b) : (execOp a.eval o).run P w = .ok (.value (.bool (!b))) w := by
  obtain ⟨dst, op, ty, pos, af, gd⟩ := o
  simp only at ho
  subst ho
  simp only [execOp, hx]
  rfl

theorem results_none {fn : Func} {tmps : Array Value} {w : World} (h : fn.results.toList = []) : ∃ v, (results fn tmps).run P w = .ok v w := by
  have := results_tuple (P := P) (fn := fn) (tmps := tmps) (w := w) (us := []) (fun f _ _ => by rw [h]; rfl)
  exact ⟨_, this⟩


/-! ### Pieces that leave what they do not set -/
theorem wp_put {o : Oper} {ro : Option Nat} {n : Nat} {a : Act} {w : World} {next : Act → World → Prop} {Q : Exit → Act → World → Prop} (hd : ∀ c, o.op ≠ .defer c) (h : o.wp P a w next Q) :
    o.wpIn (Wd ro) n P a w (fun a' w' => (∃ (a0 : Act) (v : Value), a0.tmps = a.tmps ∧ a' = a0.put o.dst v) ∧ next a' w') Q := by
  refine wp_in hd ?_
  unfold Oper.wp at *
  generalize (execOp a.eval o).run P w = r at *
  cases r with
  | ok x w' =>
    cases x with
    | value v => exact ⟨⟨a, v, rfl, rfl⟩, h⟩
    | skip => exact ⟨⟨a, _, rfl, rfl⟩, h⟩
    | defer d => exact ⟨⟨{ a with defers := d :: a.defers }, undef, rfl, rfl⟩, h⟩
    | enter f args =>
      simp only [Oper.upon] at h ⊢
      exact Calls.mono h (fun e w'' he => by cases e <;> first | exact ⟨⟨a, _, rfl, rfl⟩, he⟩ | exact he)
    | row r args =>
      simp only [Oper.upon] at h ⊢
      exact Rows.mono h (fun v w'' he => ⟨⟨a, v, rfl, rfl⟩, he⟩)
    | _ => exact absurd h (by simp [Oper.upon])
  | halt x w' => cases x <;> simp only [Oper.upon] at h ⊢ <;> exact h

/-- The temporaries that operations set. -/
def setsL (l : List Oper) : List Tmp := l.filterMap (·.dst)
theorem put_keeps {a a0 : Act} {t : Tmp} {dst : Option Tmp} {v : Value} (h0 : a0.tmps = a.tmps) (h : dst ≠ some t) : (a0.put dst v).tmps.getD t undef = a.tmps.getD t undef := by
  cases dst with
  | none => show a0.tmps.getD t undef = _; rw [h0]
  | some d =>
    have hdt : d ≠ t := fun e => h (by rw [e])
    show (a0.tmps.setIfInBounds d v).getD t undef = _
    rw [← h0]
    simp [Array.getD_eq_getD_getElem?, Array.getElem?_setIfInBounds_ne hdt]

/-- As piece_in; and what the piece does not set stays. -/
theorem piece_pin {X R : Type} {E : Env X} (hty : ∀ T ti, E.ty T = some ti → TyOk P T ti) (hfn : FnsOk P E) {ops : Array Oper} {n0 : Nat} {K : St → Option R} {r : R} {ro : Option Nat} {M0 : Nat → Prop} {b0 : Nat → Prop} {w0 : World} {Q : Exit → Act → World → Prop} {l2 : List Oper} {t : Tmp} {u : Value}
    (hQ : ∀ s' a' w', K s' = some r → Matches M0 b0 w0 nt s' a' w' → a'.tmps.getD t undef = u → wpListIn (Wd ro) 0 P ops Q l2 a' w') :
    ∀ (l : List Oper) (bs : List (Option Nat)) (s : St) (a : Act) (w : World), noDef l = true → (∀ o ∈ l, o.dst ≠ some t) → runOps E ops.toList n0 l bs s K = some r → Matches M0 b0 w0 nt s a w → a.tmps.getD t undef = u → wpListIn (Wd ro) 0 P ops Q (l ++ l2) a w
  | [], _, _, _, _, _, _, h, hm, hu => hQ _ _ _ (by simpa [runOps] using h) hm hu
  | o :: rest, bs, _, a, w, hd, ht, h, hm, hu => by
    have hdd := noDef_cons hd
    have hto := ht o (List.mem_cons_self ..)
    have := step_strict hty hfn (Q := Q) h hm (next := fun a' w' => a'.tmps.getD t undef = u → wpListIn (Wd ro) 0 P ops Q (rest ++ l2) a' w') fun s' a' w' _ h' hm' hu' => piece_pin hty hfn hQ rest (bs.drop 1) s' a' w' hdd.2 (fun o ho => ht o (List.mem_cons_of_mem _ ho)) h' hm' hu'
    have e : ops.toList.toArray = ops := by simp
    rw [e] at this
    show wpListIn (Wd ro) 0 P ops Q (o :: (rest ++ l2)) a w
    unfold wpListIn
    split
    · rename_i hw
      rw [if_pos hw] at this
      refine Oper.wpIn_mono (fun a' w' h => ?_) (wp_put (ro := ro) (n := 0) hdd.1 this)
      obtain ⟨⟨a0, v, e1, rfl⟩, h2⟩ := h
      exact h2 ((put_keeps e1 hto).trans hu)
    · rename_i hw
      rw [if_neg hw] at this
      exact ⟨fun _ _ => trivial, this ((put_keeps rfl hto).trans hu)⟩

/-! ### Operations run by hand -/
section
variable {w : World} {a : Act} {o : Oper}
/-- A new variable that holds a value. -/
theorem newVar_at (M : Nat → Prop) {T : TypeId} {t : Ty} {x : t.D} {cs : List Value} {v : Value} (hv : v.cells = cs.toArray) (hr : Rep M w t x cs) :
    (newVar T v).run P w = .ok ⟨w.heap.size, 0, none⟩ (w.alloc (.cells cs.toArray T)) ∧ Below w.heap.size w (w.alloc (.cells cs.toArray T)) ∧
      (w.alloc (.cells cs.toArray T)).ownsRow 0 T t.sz (.slice (some ⟨w.heap.size, 0, none⟩) 1 1) 1 cs := by
  have hl := Rep.len _ _ _ hr
  refine ⟨by simp [newVar, newRow, hv], (Below.refl _ _).alloc (Nat.le_refl _) _, ⟨by simpa using hl, .inr ⟨w.heap.size, 1, cs.toArray, rfl, Nat.zero_le _, World.alloc_heap_new w _, Nat.le_refl _, by decide, by simpa using hl, by rw [List.toList_toArray, Nat.one_mul, ← hl, List.take_length]⟩⟩⟩

theorem alloc_run {T : TypeId} {ti : TI} (ho : o.op = .alloc T) (ht : TyOk P T ti) : (execOp a.eval o).run P w = .ok (.value (.pointer (some ⟨w.heap.size, 0, none⟩))) (w.alloc (.cells ti.t.zcells.toArray T)) ∧ Below w.heap.size w (w.alloc (.cells ti.t.zcells.toArray T)) ∧
    (w.alloc (.cells ti.t.zcells.toArray T)).ownsRow 0 T ti.t.sz (.slice (some ⟨w.heap.size, 0, none⟩) 1 1) 1 ti.t.zcells := by
  obtain ⟨inf, hinf, _, z, hz, hzc⟩ := ht.2.1
  obtain ⟨h1, h2, h3⟩ := newVar_at (P := P) (w := w) (fun _ => False) (T := T) (v := z) (by rw [← hzc]) (Rep.zcells (fun _ => False) w ti.t)
  exact ⟨by simp [execOp, ho, Instr.alloc, zeroValue, typeInfo, hinf, hz, h1], h2, h3⟩

theorem box_run {M : Nat → Prop} {T : TypeId} {t : Ty} {x : t.D} {y : Operand} {cs : List Value} (ho : o.op = .box T y) (hok : t.ok false = true) (hr : Rep M w t x cs) (hy : a.eval y = ofCells t cs) :
    (execOp a.eval o).run P w = .ok (.value (.pointer (some ⟨w.heap.size, 0, none⟩))) (w.alloc (.cells cs.toArray T)) ∧ Below w.heap.size w (w.alloc (.cells cs.toArray T)) ∧ (w.alloc (.cells cs.toArray T)).ownsRow 0 T t.sz (.slice (some ⟨w.heap.size, 0, none⟩) 1 1) 1 cs := by
  obtain ⟨h1, h2, h3⟩ := newVar_at (P := P) (w := w) M (T := T) (v := a.eval y) (by rw [hy]; exact ofCells_cells hok hr) hr
  exact ⟨by simp [execOp, ho, Instr.box, h1], h2, h3⟩

theorem load_run {T : TypeId} {ti : TI} {y : Operand} {g : Nat} {cs : List Value} {c : Nat} (ho : o.op = .load T y) (ht : TyOk P T ti) (hl : cs.length = ti.t.sz) (hy : a.eval y = .pointer (some ⟨g, 0, none⟩)) (hc : w.ownsRow 0 T ti.t.sz (.slice (some ⟨g, 0, none⟩) 1 c) 1 cs) :
    (execOp a.eval o).run P w = .ok (.value (ofCells ti.t cs)) w := by
  have := run_loadVar_len (P := P) (w := w) ht hl ⟨g, 0, none⟩ fun j v hj => hc.cells (g := g) rfl j v hj
  simp [execOp, ho, Instr.loadAt, hy, Instr.sureAddr, this]

theorem store_run {M : Nat → Prop} {T : TypeId} {ti : TI} {x : ti.t.D} {ad y : Operand} {g c : Nat} {cs ys : List Value} (ho : o.op = .store T ad y) (ht : TyOk P T ti) (hr : Rep M w ti.t x cs) (hy : a.eval y = ofCells ti.t cs) (had : a.eval ad = .pointer (some ⟨g, 0, none⟩))
    (hc : w.ownsRow 0 T ti.t.sz (.slice (some ⟨g, 0, none⟩) 1 c) 1 ys) : ∃ w', (execOp a.eval o).run P w = .ok .skip w' ∧ w'.ownsRow 0 T ti.t.sz (.slice (some ⟨g, 0, none⟩) 1 c) 1 cs ∧ w.grownBy w' (some g) := by
  have hl := Rep.len _ _ _ hr
  have hyl : ys.length = ti.t.sz := by rw [hc.1, Nat.one_mul]
  obtain ⟨w', h1, h2, h3⟩ := own_splice (b0 := fun _ => True) ⟨hc, fun _ _ => trivial⟩ (g := g) rfl (o := 0) (vs := cs) (by omega) (Rep.one _ _ _ hr)
  have := run_storeVar ht hr hy ⟨g, 0, none⟩ w
  rw [h1] at this
  have e : splice ys 0 cs = cs := by
    have : cs.length = ys.length := by omega
    unfold splice
    simp [this]
  rw [e] at h2
  exact ⟨w', by simp [execOp, ho, Instr.storeAt, had, Instr.sureAddr, this], h2.1, h3⟩

theorem assign_run {y : Operand} (ho : o.op = .assign y) : (execOp a.eval o).run P w = .ok (.value (a.eval y)) w := by
  simp [execOp, ho]
end

/-- A state set up anew: one row of the call's own, what is read in memory, nothing else. -/
theorem mkM {M0 : Nat → Prop} {w : World} {a : Act} {v : Value} {e : TypeId} {t : Ty} {l : List t.D} {ys : List Value} {fr : List AV} (hok : t.ok false = true) (hsz : 0 < t.sz) (hown : w.ownsRow 0 e t.sz v l.length ys)
    (hrow : RepRow (fun q => M0 q ∨ v.ownBlock = some q) w t l ys) (hM0 : ∀ q, M0 q → q < w.heap.size) (hne : ∀ b, v.ownBlock = some b → ¬ M0 b) (hgl : Gl (fun q => M0 q ∨ v.ownBlock = some q) w) (hdf : a.defers = []) (hn : a.tmps.size = fr.length)
    (hfr : ∀ t', nthD .bad fr t' = .bad ∨ (nthD .bad fr t' = .own 0 ∧ a.tmps.getD t' undef = v) ∨ ∃ ty x, nthD .bad fr t' = .mem ty x ∧ RepA (fun q => M0 q ∨ v.ownBlock = some q) (fun _ => v) (fun _ => True) (fun _ => none) w (.mem ty x) (a.tmps.getD t' undef)) :
    Matches M0 (fun q => w.heap.size ≤ q ∨ v.ownBlock = some q) w ⟨fr.length, [v], []⟩ ⟨fr, [some ⟨e, t, l⟩]⟩ a w := by
  have hF : ∀ id ob2, obF [some (⟨e, t, l⟩ : Ob)] id = some ob2 → id = 0 ∧ ob2 = ⟨e, t, l⟩ := by
    intro id ob2 h2
    cases id with
    | zero => exact ⟨rfl, by simpa [obF, nthD] using h2.symm⟩
    | succ id => simp [obF, nthD] at h2
  have hMs : ∀ q, Msum M0 (fun _ => v) (obF [some (⟨e, t, l⟩ : Ob)]) q → M0 q ∨ v.ownBlock = some q := by
    rintro q (h | ⟨id, ob2, _, h⟩)
    · exact .inl h
    · exact .inr h
  refine ⟨hdf, Beyond.refl _ _, hn, hn, fun _ => v, fun j u hj => ?_, ⟨fun q hq => ?_, hgl.next (Nat.le_refl _) (fun _ _ _ => rfl) (fun q hq h => ?_), fun q hq => .inl hq, fun id ob2 ho => ?_, fun i j obi obj hi hj hij => ?_⟩, fun t' => ?_⟩
  · cases j with
    | zero => simp at hj; exact ⟨by simp, hj⟩
    | succ j => simp at hj
  · rintro (h | h)
    · have := hM0 q hq; omega
    · exact hne q h hq
  · rcases h with h | h | h
    · exact .inl h
    · omega
    · exact .inr h
  · obtain ⟨rfl, rfl⟩ := hF id ob2 ho
    exact ⟨okO_of hok, hsz, ys, ⟨.of hok hown, fun b hb => .inr hb⟩, hrow.next (Agree.refl _ _) (fun q _ h => hMs q h)⟩
  · obtain ⟨rfl, _⟩ := hF i obi hi
    obtain ⟨rfl, _⟩ := hF j obj hj
    exact absurd rfl hij
  · rcases hfr t' with h | ⟨h, hv⟩ | ⟨ty, x, h, hr⟩
    · show RepA _ _ _ _ _ (nthD .bad fr t') _
      rw [h]; trivial
    · show RepA _ _ _ _ _ (nthD .bad fr t') _
      rw [h]
      exact ⟨Nat.zero_lt_one, hv⟩
    · show RepA _ _ _ _ _ (nthD .bad fr t') _
      rw [h]
      obtain ⟨h1, ad, cs, h2, h3, h4, h5, h6⟩ := hr
      exact ⟨h1, ad, cs, h2, h3, fun hq => h4 (hMs _ hq), Rep.next (Agree.refl _ _) (fun q _ hq => hMs q hq) _ _ _ h5, h6⟩

/-! ### One operation of a list -/
theorem step_val {ro : Option Nat} {ops : Array Oper} {Q : Exit → Act → World → Prop} {o : Oper} {rest : List Oper} {a : Act} {w w' : World} {v : Value} (hg : o.guard = none) (hnd : ∀ c, o.op ≠ .defer c) (hrun : (execOp a.eval o).run P w = .ok (.value v) w')
    (hn : wpListIn (Wd ro) 0 P ops Q rest (a.put o.dst v) w') : wpListIn (Wd ro) 0 P ops Q (o :: rest) a w := by
  unfold wpListIn
  rw [if_pos (by unfold Region.wanted; rw [hg])]
  refine wp_in hnd ?_
  unfold Oper.wp
  rw [hrun]
  exact hn
theorem step_skip {ro : Option Nat} {ops : Array Oper} {Q : Exit → Act → World → Prop} {o : Oper} {rest : List Oper} {a : Act} {w w' : World} (hg : o.guard = none) (hnd : ∀ c, o.op ≠ .defer c) (hrun : (execOp a.eval o).run P w = .ok .skip w')
    (hn : wpListIn (Wd ro) 0 P ops Q rest (a.put o.dst undef) w') : wpListIn (Wd ro) 0 P ops Q (o :: rest) a w := by
  unfold wpListIn
  rw [if_pos (by unfold Region.wanted; rw [hg])]
  refine wp_in hnd ?_
  unfold Oper.wp
  rw [hrun]
  exact hn
theorem step_call {ro : Option Nat} {ops : Array Oper} {Q : Exit → Act → World → Prop} {o : Oper} {rest : List Oper} {a : Act} {w : World} {f : FuncId} {x : Operand} {T : TypeId} {Z : Value → World → Prop} (hg : o.guard = none) (ho : o.op = .call ⟨.value (.func f), #[x], #[T]⟩) (he : ∀ args w, (callFunc f args).run P w = .ok (.enter f args) w)
    (hc : Calls P f #[a.eval x] w fun e w' => ∃ v, e = .returned v ∧ Z v w') (hn : ∀ v w', Z v w' → wpListIn (Wd ro) 0 P ops Q rest (a.put o.dst v) w') : wpListIn (Wd ro) 0 P ops Q (o :: rest) a w := by
  unfold wpListIn
  rw [if_pos (by unfold Region.wanted; rw [hg])]
  refine wp_in (fun c e => by rw [ho] at e; cases e) ?_
  unfold Oper.wp
  have hrun : (execOp a.eval o).run P w = .ok (.enter f #[a.eval x]) w := by
    have : (execOp a.eval o).run P w = (callFunc f #[a.eval x]).run P w := by
      obtain ⟨dst, op, ty, pos, af, gd⟩ := o
      simp only at ho
      subst ho
      simp [execOp, resolve, Act.eval, Deferred.ofValue, invoke]
    rw [this, he]
  rw [hrun]
  refine Calls.mono hc fun e w' h => ?_
  obtain ⟨v, rfl, hz⟩ := h
  exact hn v w' hz

theorem put_get {a : Act} {d : Tmp} {v : Value} (h : d < a.tmps.size) : (a.put (some d) v).tmps.getD d undef = v := by
  show (a.tmps.setIfInBounds d v).getD d undef = v
  simp [Array.getD_eq_getD_getElem?, h]
theorem put_size {a : Act} {d : Option Tmp} {v : Value} : (a.put d v).tmps.size = a.tmps.size := by
  cases d with
  | none => rfl
  | some d => show (a.tmps.setIfInBounds d v).size = _; simp
theorem put_oth {a : Act} {t : Tmp} {d : Option Tmp} {v : Value} (h : d ≠ some t) : (a.put d v).tmps.getD t undef = a.tmps.getD t undef := put_keeps rfl h

theorem mem_keep {M M' : Nat → Prop} {ν ν' : Nat → Value} {dom dom' : Nat → Prop} {obs obs' : Obs} {w w' : World} {t : Ty} {x : t.D} {v : Value} (h : RepA M ν dom obs w (.mem t x) v) (hA : Agree M w w') (hM : ∀ q, q < w.heap.size → M' q → M q) : RepA M' ν' dom' obs' w' (.mem t x) v := by
  obtain ⟨h1, ad, cs, h2, h3, h4, h5, h6⟩ := h
  refine ⟨h1, ad, cs, h2, Nat.lt_of_lt_of_le h3 hA.size, fun hq => h4 (hM _ h3 hq), Rep.next hA hM _ _ _ h5, fun j u hj => hA.cell (by rw [block_add]; exact h4) (h6 j u hj)⟩

end Go.FK

/- Code walked in a round (no loop in it, nothing put off); a loop's own variables between the rounds. -/
namespace Go.FK
open Go.RowKit

variable {P : Program} {X R : Type} {nt : NT}

/-! ### Code in a round -/
theorem noDef_mem {l : List Oper} {o : Oper} (h : noDef l = true) (hm : o ∈ l) : ∀ c, o.op ≠ .defer c := by
  induction l with
  | nil => cases hm
  | cons x l ih =>
    have hd := noDef_cons h
    rcases List.mem_cons.1 hm with e | hm
    · rw [e]; exact hd.1
    · exact ih hd.2 hm

theorem wpAny_in {ops : Array Oper} {md : Region.Mode} {Q : Exit → Act → World → Prop} {ro : Option Nat} (hd : noDef ops.toList = true) (hQ : ¬ LetsOut Q) (fuel : Nat) : ∀ (L : Array Bool) (a : Act) (w : World), wpAny P md ops Q fuel L a w → wpAnyIn (Wd ro) 0 P md ops Q fuel L a w := by
  induction fuel with
  | zero => exact fun L a w h => h
  | succ fuel ih =>
    intro L a w h
    refine ⟨h.1, fun i hi => ?_⟩
    have h2 := h.2 i hi
    unfold wpOp at h2
    unfold wpOpIn
    cases ho : ops[i]? with
    | none =>
      rw [ho] at h2
      exact ih _ a w h2
    | some o =>
      rw [ho] at h2
      have hm : o ∈ ops.toList := Array.mem_toList_iff.2 (Array.mem_of_getElem? ho)
      show if Region.wanted o (yielded ops a.tmps) = true then _ else _
      have h2 : if Region.wanted o (yielded ops a.tmps) = true then _ else _ := h2
      by_cases hw : Region.wanted o (yielded ops a.tmps) = true
      · rw [if_pos hw] at h2 ⊢
        rcases h2 with h2 | h2
        · exact Oper.wpIn_mono (fun a w h => ih _ a w h) (wp_in (noDef_mem hd hm) h2)
        · exact absurd h2.2 hQ
      · rw [if_neg hw] at h2 ⊢
        exact ⟨fun _ _ => trivial, ih _ _ w h2⟩

theorem region_in2 {E : Env X} (hty : ∀ T ti, E.ty T = some ti → TyOk P T ti) (hfn : FnsOk P E) (hmix : P.follows .mixedOrders = true) {id : Nat} {ops : Array Oper} {draw : Bool} {s : St} {K : St → Option R} {r : R} (h : regionK E ops.toList draw s K = some r) (hd : noDef ops.toList = true) {ro : Option Nat}
    {M0 : Nat → Prop} {b0 : Nat → Prop} {w0 : World} {a : Act} {w : World} (hm : Matches M0 b0 w0 nt s a w) {Q : Exit → Act → World → Prop} (hQ : ∀ s' a' w', K s' = some r → Matches M0 b0 w0 nt s' a' w' → Q .normal a' w') : (Code.region id ops draw).wpIn (Wd ro) 0 P Q a w := by
  cases draw
  · exact region_in hty hfn h hd hm hQ
  · obtain ⟨Q0, h1, h2⟩ := region_anyL hty hfn h hm hQ
    refine wpIn_mono (wpIn_region_any hmix (wpAny_in hd (fun ⟨a, w, hl⟩ => by have := (h2 _ _ _ hl).1; cases this) _ _ _ _ h1)) fun e a w h => ?_
    obtain ⟨rfl, h3⟩ := h2 _ _ _ h
    exact h3

def noDefC : Code → Bool
  | .region _ ops _ => noDef ops.toList
  | .seq a b => noDefC a && noDefC b
  | .cond _ t e => noDefC t && noDefC e
  | .block _ c => noDefC c
  | .scope _ => false
  | _ => true

section
variable {E : Env X} (hty : ∀ T ti, E.ty T = some ti → TyOk P T ti) (hfn : FnsOk P E) (hmix : P.follows .mixedOrders = true) (hpt : ∀ p, E.pt p = none) {r : X} {M0 : Nat → Prop} {b0 : Nat → Prop} {w0 : World} {ro : Option Nat}

include hty hfn hmix hpt in
theorem codeK_in : ∀ (c : Code) (bid : Nat) (s : St) (K : Exit → St → Option X) (Q : Exit → Act → World → Prop) (a : Act) (w : World), codeK E bid c s K = some r → noDefC c = true → Holds M0 b0 w0 nt r K Q →
    Matches M0 b0 w0 nt s a w → c.wpIn (Wd ro) 0 P Q a w := by
  intro c
  induction c with
  | skip => intro bid s K Q a w h _ hK hm; exact wpIn_skip (hK _ s a w h hm)
  | region rr ops draw =>
    intro bid s K Q a w h hd hK hm
    simp only [codeK, hpt] at h
    exact region_in2 hty hfn hmix h hd hm fun s' a' w' hk hm' => hK _ _ _ _ hk hm'
  | seq x y ihx ihy =>
    intro bid s K Q a w h hd hK hm
    simp only [noDefC, Bool.and_eq_true] at hd
    exact wpIn_seq (ihx bid s _ _ a w h hd.1 (hK.seq fun s' a' w' hk hm' => ihy bid s' K Q a' w' hk hd.2 hK hm') hm)
  | cond x t e iht ihe =>
    intro bid s K Q a w h hd hK hm
    simp only [noDefC, Bool.and_eq_true] at hd
    simp only [codeK] at h
    split at h
    · rename_i b hb
      obtain ⟨_, _, _, _, ν, hw, hg, hr⟩ := hm
      have hv := evA_rep hg.glM hr x
      rw [hb] at hv
      have hv := repV_bool hv
      have hm : Matches M0 b0 w0 nt s a w := ⟨‹_›, ‹_›, ‹_›, ‹_›, ν, hw, hg, hr⟩
      refine wpIn_cond hv ?_
      cases b
      · simp only [cond_false] at h
        exact ihe bid s K Q a w h hd.2 hK hm
      · simp only [cond_true] at h
        exact iht bid s K Q a w h hd.1 hK hm
    · cases h
  | block id c ih =>
    intro bid s K Q a w h hd hK hm
    exact wpIn_block (ih id s _ _ a w h hd hK.block hm)
  | loop c ih =>
    intro bid s K Q a w h
    simp [codeK, pointK, hpt] at h
  | exit id => intro bid s K Q a w h _ hK hm; exact wpIn_exit (hK _ s a w h hm)
  | ret => intro bid s K Q a w h _ hK hm; exact wpIn_ret (hK _ s a w h hm)
  | scope c ih => intro bid s K Q a w h hd; cases hd
  | label l => intro bid s K Q a w h _ hK hm; exact wpIn_label (hK _ s a w h hm)
  | _ => intro bid s K Q a w h; simp [codeK] at h

/-- The first n statements of a sequence; at the rest: Kl. -/
def spineK (E : Env X) : Nat → Code → St → (St → Option X) → (Exit → St → Option X) → Option X
  | 0, _, s, Kl, _ => Kl s
  | n + 1, .seq a b, s, Kl, K => codeK E 0 a s (seqK (fun s' => spineK E n b s' Kl K) K)
  | _ + 1, _, _, _, _ => none
def restC : Nat → Code → Code
  | n + 1, .seq _ b => restC n b
  | _, c => c
def noDefS : Nat → Code → Bool
  | n + 1, .seq a b => noDefC a && noDefS n b
  | _, _ => true
include hty hfn hmix hpt in
theorem spine_in : ∀ (n : Nat) (c : Code) (s : St) (Kl : St → Option X) (K : Exit → St → Option X) (Q : Exit → Act → World → Prop) (a : Act) (w : World), spineK E n c s Kl K = some r → noDefS n c = true → Holds M0 b0 w0 nt r K Q →
    (∀ s a w, Kl s = some r → Matches M0 b0 w0 nt s a w → (restC n c).wpIn (Wd ro) 0 P Q a w) → Matches M0 b0 w0 nt s a w → c.wpIn (Wd ro) 0 P Q a w
  | 0, c, s, Kl, K, Q, a, w, h, _, _, hl, hm => by
    have : restC 0 c = c := by cases c <;> rfl
    rw [this] at hl
    exact hl s a w h hm
  | n + 1, c, s, Kl, K, Q, a, w, h, hd, hK, hl, hm => by
    cases c with
    | seq x y =>
      simp only [noDefS, Bool.and_eq_true] at hd
      exact wpIn_seq (codeK_in hty hfn hmix hpt x 0 s _ _ a w h hd.1 (hK.seq fun s' a' w' hk hm' => spine_in n y s' Kl K Q a' w' hk hd.2 hK hl hm') hm)
    | _ => simp [spineK] at h
end

/-! ### A later world -/
theorem RepA.next {M M' : Nat → Prop} {ν : Nat → Value} {dom : Nat → Prop} {obs : Obs} {w w' : World} (hA : Agree M w w') (hM : ∀ q, q < w.heap.size → M' q → M q) {av : AV} {v : Value} (h : RepA M ν dom obs w av v) : RepA M' ν dom obs w' av v := by
  cases av with
  | val t x => exact RepV.next hA hM h
  | tup l =>
    obtain ⟨vs, e, h1, h2⟩ := h
    exact ⟨vs, e, h1, fun i d hi => by
      obtain ⟨u, hu, hr⟩ := h2 i d hi
      exact ⟨u, hu, RepV.next hA hM hr⟩⟩
  | tupo id l =>
    obtain ⟨h0, vs, e, h1, h3, h2⟩ := h
    exact ⟨h0, vs, e, h1, h3, fun i d hi => by
      obtain ⟨u, hu, hr⟩ := h2 i d hi
      exact ⟨u, hu, RepV.next hA hM hr⟩⟩
  | mem t x => exact mem_keep h hA hM
  | tab k l =>
    obtain ⟨a, h1, h2, h3, h4⟩ := h
    exact ⟨a, h1, Nat.lt_of_lt_of_le h2 hA.size, fun hq => h3 (hM _ h2 hq), fun j x hj => hA.cell (by rw [block_add]; exact h3) (h4 j x hj)⟩
  | _ => exact h

theorem ORow.same {w w' : World} {e : TypeId} {t : Ty} {v : Value} {n : Nat} {xs : List Value} (h : ORow w e t v n xs) (hb : ∀ b, v.ownBlock = some b → w'.heap[b]? = w.heap[b]?) : ORow w' e t v n xs := by
  refine ⟨fun ht => ownsRow_same (h.1 ht) hb, fun ht => ?_⟩
  obtain ⟨k, s, p, e1, e2, e3, hk⟩ := h.2 ht
  exact ⟨k, s, p, e1, e2, e3, (hb k (by rw [e1]; rfl)).trans hk⟩
theorem ObOk.next {M M' b0 b1 : Nat → Prop} {w w' : World} (hA : Agree M w w') (hM : ∀ q, q < w.heap.size → M' q → M q) {v : Value} {ob : Ob} (hb : ∀ b, v.ownBlock = some b → w'.heap[b]? = w.heap[b]? ∧ b1 b) (h : ObOk M b0 w v ob) : ObOk M' b1 w' v ob := by
  obtain ⟨h1, h2, xs, h3, h4⟩ := h
  exact ⟨h1, h2, xs, ⟨h3.1.same fun b e => (hb b e).1, fun b e => (hb b e).2⟩, h4.next hA hM⟩

/-- What others may turn has turned: a state stays one. -/
theorem Matches.keep {M0 b0 S : Nat → Prop} {w0 w w' : World} {s : St} {a : Act} (h : Matches M0 b0 w0 nt s a w) (hC : Chg S w w') (hS : ∀ q, S q → M0 q) : Matches M0 b0 w' nt s a w' := by
  obtain ⟨h1, h2, h3, hn3, ν, hw, hg, hr⟩ := h
  have hA : Agree (Msum M0 ν (obF s.obs)) w w' := ⟨hC.agree.size, fun q hq hn => hC.block hq fun h => hn (.inl (hS q h))⟩
  refine ⟨h1, Beyond.refl _ _, h3, hn3, ν, hw, ⟨hg.m0, hg.gl.next hC.agree.size (fun q hq hn => hC.block hq fun h => hn (.inl (hS q h))) (fun _ _ h => h), fun b hb => hg.hb b (Nat.le_trans hC.agree.size hb), fun i ob ho => ?_, hg.ne⟩, fun t => (hr t).next hA fun _ _ h => h⟩
  have hob := hg.ob i ob ho
  obtain ⟨_, _, xs, h4, _⟩ := id hob
  refine hob.next hA (fun _ _ h => h) fun b e => ⟨?_, h4.2 b e⟩
  exact hC.block (h4.1.lt b e).2 fun h => hg.m0 b (hS b h) (h4.2 b e)

/-! ### The variables of a loop -/
def Yb (ros : List Value) (q : Nat) : Prop := ∃ (j : Nat) (v : Value), ros[j]? = some v ∧ v.ownBlock = some q
def rowAt (ros : List Value) (j : Nat) : Value := (ros[j]?).getD undef
/-- The loop's own variables: the rows of ros hold obs. -/
structure LoopG (M0 : Nat → Prop) (ros : List Value) (obs : List Ob) (W : World) : Prop where
  len : ros.length = obs.length
  ok : ∀ ob ∈ obs, ob.t.ok false = true
  good : Good M0 (fun q => W.heap.size ≤ q ∨ Yb ros q) (rowAt ros) (obF (obs.map some)) W

theorem obF_map {obs : List Ob} {id : Nat} {ob : Ob} : obF (obs.map some) id = some ob ↔ obs[id]? = some ob := by
  unfold obF
  rw [nthD_eq, List.getD_eq_getElem?_getD, List.getElem?_map]
  cases obs[id]? <;> simp

theorem LoopG.row {M0 : Nat → Prop} {ros : List Value} {obs : List Ob} {W : World} (h : LoopG M0 ros obs W) {j : Nat} {v : Value} (hj : ros[j]? = some v) : ∃ ob xs, obs[j]? = some ob ∧ W.ownsRow 0 ob.e ob.t.sz v ob.l.length xs := by
  have hlt := (List.getElem?_eq_some_iff.1 hj).1
  have ho : obs[j]? = some (obs[j]'(by rw [← h.len]; exact hlt)) := List.getElem?_eq_getElem _
  obtain ⟨_, _, xs, h4, _⟩ := h.good.ob j _ (obF_map.2 ho)
  have e : rowAt ros j = v := by simp [rowAt, hj]
  rw [e] at h4
  exact ⟨_, xs, ho, h4.1.1 (h.ok _ (List.mem_of_getElem? ho))⟩
theorem LoopG.lt {M0 : Nat → Prop} {ros : List Value} {obs : List Ob} {W : World} (h : LoopG M0 ros obs W) {q : Nat} (hq : Yb ros q) : q < W.heap.size ∧ ¬ M0 q := by
  obtain ⟨j, v, hj, hv⟩ := id hq
  obtain ⟨ob, xs, _, hr⟩ := h.row hj
  exact ⟨(hr.lt q hv).2, fun hm => h.good.m0 q hm (.inr hq)⟩
theorem LoopG.msum {M0 : Nat → Prop} {ros : List Value} {obs : List Ob} {W : World} (h : LoopG M0 ros obs W) (q : Nat) : Msum M0 (rowAt ros) (obF (obs.map some)) q ↔ M0 q ∨ Yb ros q := by
  constructor
  · rintro (hq | ⟨id, ob, ho, hb⟩)
    · exact .inl hq
    · have hlt : id < ros.length := by rw [h.len]; exact (List.getElem?_eq_some_iff.1 (obF_map.1 ho)).1
      refine .inr ⟨id, rowAt ros id, ?_, hb⟩
      simp [rowAt, List.getElem?_eq_getElem hlt]
  · rintro (hq | ⟨j, v, hj, hv⟩)
    · exact .inl hq
    · obtain ⟨ob, xs, ho, _⟩ := h.row hj
      refine .inr ⟨j, ob, obF_map.2 ho, ?_⟩
      unfold rowAt
      rw [hj]; exact hv
theorem LoopG.gl {M0 : Nat → Prop} {ros : List Value} {obs : List Ob} {W : World} (h : LoopG M0 ros obs W) : Gl (fun q => Yb ros q ∨ M0 q) W :=
  h.good.gl.next (Nat.le_refl _) (fun _ _ _ => rfl) fun _q _ hq => hq.elim (fun h => .inr (.inr h)) .inl

theorem LoopG.keep {M0 M1 S : Nat → Prop} {ros : List Value} {obs : List Ob} {W W' : World} (h : LoopG M0 ros obs W) (hC : Chg S W W') (hS : ∀ q, S q → M0 q) (hM : ∀ q, q < W.heap.size → M1 q → M0 q) (hMs : ∀ q, M1 q → q < W'.heap.size) : LoopG M1 ros obs W' := by
  have hsz := hC.agree.size
  have hA : Agree (Msum M0 (rowAt ros) (obF (obs.map some))) W W' := ⟨hsz, fun q hq hn => hC.block hq fun h => hn (.inl (hS q h))⟩
  have hMM : ∀ q, q < W.heap.size → Msum M1 (rowAt ros) (obF (obs.map some)) q → Msum M0 (rowAt ros) (obF (obs.map some)) q := fun q hq hm => hm.elim (fun h => .inl (hM q hq h)) .inr
  refine ⟨h.len, h.ok, ⟨?_, h.good.gl.next hsz (fun q hq hn => hC.block hq fun h => hn (.inl (hS q h))) ?_, fun b hb => .inl hb, fun i ob ho => ?_, h.good.ne⟩⟩
  · rintro q hq (h1 | h1)
    · have := hMs q hq; omega
    · exact (h.lt h1).2 (hM q (h.lt h1).1 hq)
  · rintro q hq (h1 | h1 | h1)
    · exact .inl (hM q hq h1)
    · omega
    · exact .inr (.inr h1)
  · have hob := h.good.ob i ob ho
    obtain ⟨_, _, xs, h4, _⟩ := id hob
    refine hob.next hA hMM fun b e => ?_
    have hlt := (h4.1.lt b e).2
    have hY : Yb ros b := by
      rcases (h.msum b).1 (.inr ⟨i, ob, ho, e⟩) with h1 | h1
      · exact absurd (h4.2 b e) (h.good.m0 b h1)
      · exact h1
    exact ⟨hC.block hlt fun h1 => (h.lt hY).2 (hS b h1), .inr hY⟩

/-- How a slot of the loop's frame stands. -/
def SlotR (ros : List Value) (av : AV) (v : Value) : Prop := av = .bad ∨ ∃ j g c, av = .ptr j 0 [] ∧ ros[j]? = some (.slice (some ⟨g, 0, none⟩) 1 c) ∧ v = .pointer (some ⟨g, 0, none⟩)
theorem LoopG.matches {M0 : Nat → Prop} {ros : List Value} {obs : List Ob} {W : World} (h : LoopG M0 ros obs W) {a : Act} {df : List Deferred} (hdf : a.defers = df) {fr : List AV} (hn : a.tmps.size = fr.length)
    (hfr : ∀ t, SlotR ros (nthD .bad fr t) (a.tmps.getD t undef) ∨ ∃ ty x, nthD .bad fr t = .mem ty x ∧ RepA (fun q => M0 q ∨ Yb ros q) (fun _ => undef) (fun _ => True) (fun _ => none) W (.mem ty x) (a.tmps.getD t undef)) :
    Matches M0 (fun q => W.heap.size ≤ q ∨ Yb ros q) W ⟨fr.length, ros, df⟩ ⟨fr, obs.map some⟩ a W := by
  refine ⟨hdf, Beyond.refl _ _, hn, hn, rowAt ros, fun j v hj => ⟨?_, ?_⟩, h.good, fun t => ?_⟩
  · rw [List.length_map, ← h.len]; exact (List.getElem?_eq_some_iff.1 hj).1
  · simp [rowAt, hj]
  · rcases hfr t with (e | ⟨j, g, c, e, hj, hv⟩) | ⟨ty, x, e, hr⟩
    · show RepA _ _ _ _ _ (nthD .bad fr t) _
      rw [e]; trivial
    · show RepA _ _ _ _ _ (nthD .bad fr t) _
      rw [e]
      have hlt := (List.getElem?_eq_some_iff.1 hj).1
      refine ⟨by show j < (obs.map some).length; rw [List.length_map, ← h.len]; exact hlt, fun ob ho => ?_⟩
      obtain ⟨ob2, xs, ho2, hr2⟩ := h.row hj
      rw [obF_map.1 ho] at ho2
      cases ho2
      have hl : ob.l.length = 1 := by
        obtain ⟨A, c', h'⟩ := ORow.slice (ORow.of (h.ok _ (List.mem_of_getElem? (obF_map.1 ho))) hr2)
        injection h' with _ h2 _
        exact h2.symm
      refine ⟨by omega, g, 1, c, by simp [rowAt, hj], ?_⟩
      rw [hv]
      simp [offP]
    · show RepA _ _ _ _ _ (nthD .bad fr t) _
      rw [e]
      obtain ⟨k1, ad, cs, k2, k3, k4, k5, k6⟩ := hr
      exact ⟨k1, ad, cs, k2, k3, fun hq => k4 ((h.msum _).1 hq), Rep.next (Agree.refl _ _) (fun q _ hq => (h.msum _).1 hq) _ _ _ k5, k6⟩

/-- A state whose objects are all pinned: the loop's variables. -/
theorem LoopG.back {M0 b0 : Nat → Prop} {w0 W : World} {n : Nat} {ros : List Value} {df : List Deferred} {fr : List AV} {obs : List Ob} {a : Act} (h : Matches M0 b0 w0 ⟨n, ros, df⟩ ⟨fr, obs.map some⟩ a W) (hl : ros.length = obs.length) (hok : ∀ ob ∈ obs, ob.t.ok false = true) :
    LoopG M0 ros obs W ∧ Beyond b0 w0 W ∧ ∀ q, Yb ros q → b0 q := by
  obtain ⟨h1, h2, h3, hn3, ν, hw, hg, hr⟩ := h
  have hν : ∀ id ob, obF (obs.map some) id = some ob → ν id = rowAt ros id := by
    intro id ob ho
    have hlt : id < ros.length := by rw [hl]; exact (List.getElem?_eq_some_iff.1 (obF_map.1 ho)).1
    have := (hw id _ (List.getElem?_eq_getElem hlt)).2
    rw [this]
    simp [rowAt, List.getElem?_eq_getElem hlt]
  have hY : ∀ q, Yb ros q → b0 q := by
    rintro q ⟨j, v, hj, hv⟩
    have hlt := (List.getElem?_eq_some_iff.1 hj).1
    have ho : obs[j]? = some (obs[j]'(by rw [← hl]; exact hlt)) := List.getElem?_eq_getElem _
    obtain ⟨_, _, xs, h4, _⟩ := hg.ob j _ (obF_map.2 ho)
    have := (hw j v hj).2
    exact h4.2 q (by rw [this]; exact hv)
  have hms : Msum M0 (rowAt ros) (obF (obs.map some)) = Msum M0 ν (obF (obs.map some)) := by
    funext q
    apply propext
    constructor <;> rintro (hq | ⟨id, ob, ho, hb⟩)
    · exact .inl hq
    · exact .inr ⟨id, ob, ho, by rw [hν id ob ho]; exact hb⟩
    · exact .inl hq
    · exact .inr ⟨id, ob, ho, by rw [← hν id ob ho]; exact hb⟩
  refine ⟨⟨hl, hok, ⟨?_, hg.gl.next (Nat.le_refl _) (fun _ _ _ => rfl) ?_, fun b hb => .inl hb, fun id ob ho => ?_, fun i j obi obj hi hj hij => ?_⟩⟩, h2, hY⟩
  · rintro q hq (h1 | h1)
    · exact hg.m0 q hq (hg.hb q h1)
    · exact hg.m0 q hq (hY q h1)
  · rintro q _ (h1 | h1 | h1)
    · exact .inl h1
    · exact .inr (hg.hb q h1)
    · exact .inr (hY q h1)
  · have := hg.ob id ob ho
    rw [hν id ob ho] at this
    rw [hms]
    obtain ⟨k1, k2, xs, k3, k4⟩ := this
    refine ⟨k1, k2, xs, ⟨k3.1, fun b e => .inr ?_⟩, k4⟩
    have hlt : id < ros.length := by rw [hl]; exact (List.getElem?_eq_some_iff.1 (obF_map.1 ho)).1
    refine ⟨id, rowAt ros id, ?_, e⟩
    simp [rowAt, List.getElem?_eq_getElem hlt]
  · have := hg.ne i j obi obj hi hj hij
    rwa [hν i obi hi, hν j obj hj] at this

/-- All objects' rows are pinned. -/
theorem Matches.pin {M0 b0 : Nat → Prop} {w0 w : World} {n : Nat} {ro : List Value} {df : List Deferred} {s : St} {a : Act} (h : Matches M0 b0 w0 ⟨n, ro, df⟩ s a w) : ∃ ros : List Value, ros.length = s.obs.length ∧ Matches M0 b0 w0 ⟨n, ros, df⟩ s a w := by
  obtain ⟨h1, h2, h3, hn3, ν, hw, hg, hr⟩ := h
  refine ⟨(List.range s.obs.length).map ν, by simp, h1, h2, h3, hn3, ν, fun j v hj => ?_, hg, hr⟩
  have hlt := (List.getElem?_eq_some_iff.1 hj).1
  simp only [List.length_map, List.length_range] at hlt
  rw [List.getElem?_map, List.getElem?_range hlt] at hj
  exact ⟨hlt, Option.some.inj hj⟩
/-- What a slot holds that leads to a variable. -/
theorem Matches.slot {M0 b0 : Nat → Prop} {w0 w : World} {n : Nat} {ros : List Value} {df : List Deferred} {fr : List AV} {obs : List Ob} {a : Act} (h : Matches M0 b0 w0 ⟨n, ros, df⟩ ⟨fr, obs.map some⟩ a w) (hl : ros.length = obs.length) (hok : ∀ ob ∈ obs, ob.t.ok false = true ∧ ob.l.length = 1) {t j : Nat} (ht : nthD .bad fr t = .ptr j 0 []) :
    SlotR ros (nthD .bad fr t) (a.tmps.getD t undef) := by
  obtain ⟨h1, h2, h3, hn3, ν, hw, hg, hr⟩ := h
  have hrt := hr t
  have ht' : nthD .bad (⟨fr, obs.map some⟩ : St).fr t = .ptr j 0 [] := ht
  rw [ht'] at hrt
  obtain ⟨hd, hrt⟩ := hrt
  have hlt : j < obs.length := by simpa using hd
  have ho : obs[j]? = some (obs[j]) := List.getElem?_eq_getElem _
  obtain ⟨_, g, n', c, k2, k3⟩ := hrt _ (obF_map.2 ho)
  obtain ⟨_, _, xs, h4, _⟩ := hg.ob j _ (obF_map.2 ho)
  have hk := hok _ (List.mem_of_getElem? ho)
  have hn : n' = 1 := by
    rw [k2] at h4
    obtain ⟨A, c', h'⟩ := h4.1.slice
    injection h' with _ h2 _
    rw [h2]; exact hk.2
  subst hn
  have hlr : j < ros.length := by omega
  have hv := (hw j _ (List.getElem?_eq_getElem hlr)).2
  refine .inr ⟨j, g, c, ht, ?_, ?_⟩
  · rw [List.getElem?_eq_getElem hlr, ← hv, k2]
  · rw [k3]; simp [offP]
end Go.FK

/- The parts of a number, as ratio.parts hands them over; ratio.Expand. -/
namespace Go.FK

abbrev ptZ : Ty := .st (.pair .bool (.list (.int .u32)))
abbrev ptQ : Ty := .st (.pair ptZ (.list (.int .u32)))
abbrev PZ : Type := Bool × List Int
abbrev PQ : Type := (Bool × List Int) × List Int

section
variable (fl : Nat → PQ → Option PZ) (fo : Nat → PZ → Option PQ) (fs : Nat → PQ × PQ → Option PQ) (fi : Nat → PQ → Option (PQ × Int))
/-- The parts of a number. -/
def expF : Nat → PQ → Option (List PZ)
  | 0, _ => none
  | k + 1, x => (fl k x).bind fun n => (fo k n).bind fun q => (fs k (x, q)).bind fun d => (fi k d).bind fun p => bif !decide (p.2 = (0 : Int)) then some [n] else (expF k p.1).bind fun l => some (n :: l)
end
/-- The plain function of ratio.Expand. -/
def expandF (fl : Nat → PQ → Option PZ) (fo : Nat → PZ → Option PQ) (fs : Nat → PQ × PQ → Option PQ) (fi : Nat → PQ → Option (PQ × Int)) (k : Nat) (x : PQ) : Option (List PZ) :=
  (expF fl fo fs fi k x).bind fun l => bif Nat.ble (l.length * 32) 140737488355328 && Nat.ble l.length 9223372036854775807 then some l else none
end Go.FK

/- ratio.Best's plain function. -/
namespace Go.FK

abbrev ptNt : Ty := .list (.int .u32)
abbrev PN : Type := List Int
/-- The functions that Best calls. -/
structure BsF where
  fb : Nat → PN → Option Int
  fn : Nat → PQ → Option PQ
  fc : Nat → PN × PN → Option Int
  f1 : Nat → Int → Option PZ
  fl : Nat → PQ → Option PZ
  fa : Nat → PZ × PZ → Option PZ
  fm : Nat → PZ × PZ → Option PZ
  na : Nat → PN × PN → Option PN
  nm : Nat → PN × PN → Option PN
  ns : Nat → PN × PN → Option (PN × Int)
  nd : Nat → PN × PN → Option (PN × PN × Int)
  md : Nat → PZ × PN → Option PQ
  nr : Nat → PQ × PQ × PQ → Option PQ
/-- The loop's variables: r, most, the answer, h0, k0, h1, k1, first. -/
abbrev PS : Type := PQ × PN × PQ × PZ × PN × PZ × PN × Bool
abbrev tysS : List Ty := [ptQ, ptNt, ptQ, ptZ, ptNt, ptZ, ptNt, .bool]

section
variable (F : BsF)
/-- A round; whether another may follow. -/
def bodyB (k : Nat) (s : PS) (x : PZ) : Option (Bool × PS) :=
  bif s.2.2.2.2.2.2.2 then some (true, s.1, s.2.1, s.2.2.1, s.2.2.2.1, s.2.2.2.2.1, s.2.2.2.2.2.1, s.2.2.2.2.2.2.1, false)
  else (F.fm k (x, s.2.2.2.2.2.1)).bind fun m => (F.fa k (m, s.2.2.2.1)).bind fun h2 => (F.nm k (x.2, s.2.2.2.2.2.2.1)).bind fun t => (F.na k (t, s.2.2.2.2.1)).bind fun k2 => (F.fc k (k2, s.2.1)).bind fun c =>
    bif decide (c > (0 : Int)) then some (false, s.1, s.2.1, s.2.2.1, s.2.2.2.1, s.2.2.2.2.1, s.2.2.2.2.2.1, s.2.2.2.2.2.2.1, s.2.2.2.2.2.2.2)
    else some (true, s.1, s.2.1, s.2.2.1, s.2.2.2.2.2.1, s.2.2.2.2.2.2.1, h2, k2, s.2.2.2.2.2.2.2)
def loopB (k : Nat) : PS → List PZ → Option PS
  | s, [] => some s
  | s, x :: xs => (bodyB F k s x).bind fun p => bif p.1 then loopB k p.2 xs else some p.2
/-- Ahead of the loop: the answer, or the loop's variables. -/
def preB (k : Nat) (r : PQ) (most : PN) : Option (Sum (PQ × Int) PS) :=
  (F.fb k most).bind fun n => bif decide (n = (0 : Int)) then some (.inl (((false, []), []), 11))
  else (F.fn k r).bind fun q => (F.fc k (q.2, most)).bind fun c => bif decide (c ≤ (0 : Int)) then some (.inl (q, 0))
  else (F.f1 k 1).bind fun o => (F.fl k q).bind fun f => some (.inr (q, most, ((false, []), []), o, [], f, [1], true))
/-- Behind the loop. -/
def postB (k : Nat) (s : PS) : Option (PQ × Int) :=
  (F.ns k (s.2.1, s.2.2.2.2.1)).bind fun l => (F.nd k (l.1, s.2.2.2.2.2.2.1)).bind fun t => (F.md k (s.2.2.2.2.2.1, s.2.2.2.2.2.2.1)).bind fun a =>
  (F.fm k ((false, t.1), s.2.2.2.2.2.1)).bind fun u => (F.fa k (s.2.2.2.1, u)).bind fun v => (F.nm k (t.1, s.2.2.2.2.2.2.1)).bind fun y => (F.na k (s.2.2.2.2.1, y)).bind fun z => (F.md k (v, z)).bind fun b =>
  (F.nr k (s.1, a, b)).bind fun ans => some (ans, (0 : Int))
/-- The plain function of ratio.Best; ex: the parts of a number. -/
def bestF (ex : Nat → PQ → Option (List PZ)) (k : Nat) (r : PQ) (most : PN) : Option (PQ × Int) :=
  (preB F k r most).bind fun p => match p with
    | .inl a => some a
    | .inr s => (ex k s.1).bind fun xs => (loopB F k s xs).bind fun s' => postB F k s'
end
end Go.FK
