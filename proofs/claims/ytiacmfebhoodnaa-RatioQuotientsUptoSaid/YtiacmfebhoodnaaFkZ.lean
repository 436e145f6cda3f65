/- A law's call: what its arguments read as, and what the call's contract then gives. -/
import Derived.Test.YtiacmfebhoodnaaFkY
namespace Go.FK
open Go.RowKit Go.ChangeShapes Go.WideShapes Go.ChangeAt
open Go.Proofs.Ytiacmfebhoodnaa.Rows (uptoBulk uptoBulkAll)

variable {P : Program}

theorem value_told {H : Type} {enc : TypeId × Value → H} {w : World} {sp : Nat → Bool} {held : Bool} {r : Reach} {b0 : Nat} {t : Ty} {T : TypeId} {v : Value} {d : DataW H} {ps : List MemPlace} (hd : deepG P t (.inl T) = true) (hok : t.ok false = true) (hv : Value.okWide P w r b0 T v)
    (h : DataW.Trod enc P w 0 sp held T v d ps) : ∃ x : t.D, RepV (fun _ => False) w t x v ∧ t.wf x ∧ t.mass x ≤ uptoBulk d := by
  obtain ⟨fuel, h⟩ := h
  have key : v.cells.toList.length = t.sz ∧ v = ofCells t v.cells.toList := by
    cases t <;> simp only [deepG, typeAt] at hd <;> try (cases hd; done)
    case int k =>
      simp only [Bool.and_eq_true] at hd
      obtain ⟨hu, _⟩ := hd
      split at hu
      · rename_i k' hu'
        obtain ⟨n, rfl⟩ := okWide_int hu' hv
        exact ⟨rfl, rfl⟩
      · cases hu
    case bool =>
      simp only [Bool.and_eq_true] at hd
      obtain ⟨hu, _⟩ := hd
      split at hu
      · rename_i hu'
        obtain ⟨n, rfl⟩ := okWide_bool hu' hv
        exact ⟨rfl, rfl⟩
      · cases hu
    case str =>
      simp only [Bool.and_eq_true] at hd
      obtain ⟨hu, _⟩ := hd
      split at hu
      · rename_i hu'
        obtain ⟨n, rfl⟩ := okWide_string hu' hv
        exact ⟨rfl, rfl⟩
      · cases hu
    case list t =>
      simp only [Bool.and_eq_true] at hd
      obtain ⟨hu, _⟩ := hd
      split at hu
      · rename_i e hu'
        obtain ⟨a, l, c, rfl⟩ := okWide_slice hu' hv
        exact ⟨rfl, rfl⟩
      · cases hu
    case st t =>
      simp only [Bool.and_eq_true, beq_iff_eq] at hd
      obtain ⟨hu, hc⟩ := hd
      split at hu
      · rename_i fs hu'
        obtain ⟨cs, rfl, hsz⟩ := okWide_struct hu' hv
        refine ⟨?_, ?_⟩
        · show cs.toList.length = t.sz
          rw [Array.length_toList, hsz]
          exact hc
        · simp [ofCells, Ty.isSt, Value.cells]
      · cases hu
  obtain ⟨x, h1, h2, h3, _⟩ := open_rep t (.inl T) _ (uptoBulk d) fuel hd key.1 ⟨(d, ps), h, Nat.le_refl _⟩
  exact ⟨x, ⟨hok, _, h1, key.2⟩, h2, h3⟩

def wfDs : List Dyn → Prop
  | [] => True
  | d :: ds => d.1.wf d.2 ∧ wfDs ds

def massDs : List Dyn → Nat
  | [] => 0
  | d :: ds => d.1.mass d.2 + massDs ds

def deepL (P : Program) : List Ty → List TypeId → Bool
  | [], [] => true
  | t :: ts, T :: Ts => deepG P t (.inl T) && t.ok false && deepL P ts Ts
  | _, _ => false

theorem args_told {H : Type} {enc : TypeId × Value → H} {w : World} {sp : Nat → Bool} {held : Bool} {r : Reach} {b0 : Nat} : ∀ (ts : List Ty) (Ts : List TypeId) (vs : List Value) (ds : List (DataW H)) (ps : List MemPlace), deepL P ts Ts = true →
    (∀ (j : Nat) T v, Ts[j]? = some T → vs[j]? = some v → Value.okWide P w r b0 T v) → DataW.TrodAll enc P w 0 sp held Ts vs ds ps → ∃ x : TD ts, RepDs (fun _ => False) w (encT ts x) vs ∧ wfDs (encT ts x) ∧ massDs (encT ts x) ≤ uptoBulkAll ds
  | [], [], [], [], _, _, _, _ => ⟨(), trivial, trivial, Nat.zero_le _⟩
  | [t], [T], v :: vs, d :: ds, ps, hd, hv, h => by
    simp only [deepL, Bool.and_eq_true] at hd
    obtain ⟨p, q, h1, h2, _⟩ := h
    match vs, ds, h2 with
    | [], [], _ =>
      obtain ⟨x, k1, k2, k3⟩ := value_told hd.1.1 hd.1.2 (hv 0 T v rfl rfl) h1
      exact ⟨x, ⟨k1, trivial⟩, ⟨k2, trivial⟩, by simp only [massDs, encT, uptoBulkAll]; omega⟩
  | t :: u :: ts, T :: Ts, v :: vs, d :: ds, ps, hd, hv, h => by
    simp only [deepL, Bool.and_eq_true] at hd
    obtain ⟨p, q, h1, h2, _⟩ := h
    obtain ⟨x, k1, k2, k3⟩ := value_told hd.1.1 hd.1.2 (hv 0 T v rfl rfl) h1
    obtain ⟨y, j1, j2, j3⟩ := args_told (u :: ts) Ts vs ds q (by simpa [deepL] using hd.2) (fun j T' v' hT hv' => hv (j + 1) T' v' (by simpa using hT) (by simpa using hv')) h2
    exact ⟨(x, y), ⟨k1, j1⟩, ⟨k2, j2⟩, by simp only [massDs, encT, uptoBulkAll]; omega⟩
  | [], _ :: _, _, _, _, hd, _, _ => by simp [deepL] at hd
  | _ :: _, [], _, _, _, hd, _, _ => by simp [deepL] at hd
  | [], [], _ :: _, _, _, _, _, h => h.elim
  | [], [], [], _ :: _, _, _, _, h => h.elim
  | _ :: _, _ :: _, [], _, _, _, _, h => h.elim
  | _ :: _, _ :: _, _ :: _, [], _, _, _, h => h.elim
  | [_], _ :: _ :: _, _, _, _, hd, _, _ => by simp [deepL] at hd

/-- A law whose plain function says true: its call. -/
theorem law_calls {f : FuncId} {fn : Func} {c : Code} {ps : List Ty} {F : Nat → TD ps → Option Bool} (hf : P.funcs[f]? = some fn) (hb : fn.body = some c) (hname : (fn.name == "runtime.NumGoroutine") = false)
    (hc : ∀ k, Contract P f ⟨ps, [.bool], F k⟩) {x : TD ps} (hx : ∃ k, F k x = some true) {w : World} {args : Array Value} (ha : RepDs (fun _ => False) w (encT ps x) args.toList) :
    Calls P f args w fun e w' => e = .returned (.bool true) ∧ Below w.heap.size w w' := by
  obtain ⟨k, hk⟩ := hx
  have hname' : ¬ fn.name = "runtime.NumGoroutine" := by simpa using hname
  have hrun : ∀ vs, (callFunc f vs).run P w = .ok (.enter f vs) w := fun vs => by simp [callFunc, hf, hname', hb]
  rcases hc k x true hk (fun _ => False) w args.toList (fun _ h => h.elim) ha with ⟨_, h⟩ | ⟨v, w', h, _⟩
  · refine h.mono fun e w' he => ?_
    obtain ⟨us, rfl, h1, h2⟩ := he
    match us, h1 with
    | [u], h1 =>
      have := repV_bool h1.1
      subst this
      exact ⟨rfl, h2⟩
  · rw [hrun] at h
    simp at h

theorem trodAll_length {H : Type} {enc : TypeId × Value → H} {w : World} {b : Nat} {sp : Nat → Bool} {held : Bool} : ∀ {Ts : List TypeId} {vs : List Value} {ds : List (DataW H)} {ps : List MemPlace}, DataW.TrodAll enc P w b sp held Ts vs ds ps → ds.length = Ts.length
  | [], [], [], _, _ => rfl
  | _ :: _, _ :: _, _ :: _, _, ⟨_, _, _, h, _⟩ => by simp [trodAll_length h]

/-- What a call that leaves old memory alone has to show. -/
theorem post_of_below {H : Type} {enc : TypeId × Value → H} {f : Func} {s : ChangeSpec} {apart fresh handsOn again : Bool} {W W' : World} {args : Array Value} {v : Value} {ds gs : List (DataW H)} {before : List MemPlace}
    (hW : DataW.Whole enc P f.params.toList s.vars apart W args.toList ds gs before) (hb : Below W.heap.size W W')
    (hres : ∀ (b : Nat) (sp : Nat → Bool) (hd : Bool), DataW.TrodAll enc P W' b sp hd f.resultTypes.toList (v.resultList f.resultTypes.size) (s.fn H (ds ++ gs)).results [])
    (hargs : ∀ sp : Nat → Bool, (∀ p ∈ before, sp p.block = true) → DataW.TrodAll enc P W' 0 sp true f.params.toList args.toList (s.fn H (ds ++ gs)).args before)
    (hvars : ∀ sp : Nat → Bool, DataW.TrodVars enc P W' sp s.vars (s.fn H (ds ++ gs)).vars [])
    (hok : ∀ (j : Nat) (t : TypeId) (r : Value), f.resultTypes[j]? = some t → (v.resultList f.resultTypes.size)[j]? = some r → Value.okWide P W' .any 0 t r) :
    s.post enc P f apart fresh handsOn again W args v W' := by
  have hlt := fun p hp => hW.lt p hp
  have hold : ∀ p ∈ before, (fun b => decide (b < W.heap.size)) p.block = true := fun p hp => by simpa using hlt p hp
  refine ⟨ds, gs, before, [], before, [], hW, hres _ _ _, hargs _ hold, hvars _, World.keptBut_mono (fun p hp => ⟨hp, .inr (.inl hp)⟩) (hb.frame (· ∈ before)), fun _ => ?_⟩
  obtain ⟨_, _, _, _, _, hz, hn⟩ := hW
  refine ⟨hok, _, _, ([] ++ before) ++ [], ⟨[] ++ before, [], trodAll_append (hargs _ (fun _ _ => rfl)) (hres _ _ _), hvars _, rfl, ?_, ?_⟩, ?_⟩
  · intro b off hp
    have hp' : MemPlace.cell b off ∈ before := by simpa using hp
    rw [hb.frozen (hlt _ hp')]
    exact hz b off hp'
  · intro ha
    simpa using hn ha
  · intro p hp _
    simpa using hp

theorem trodAll_later {H : Type} {enc : TypeId × Value → H} (hl : laidOutB P = true) {W W' : World} (hb : Below W.heap.size W W') : ∀ (Ts : List TypeId) (vs : List Value) (ds : List (DataW H)) (ps : List MemPlace), (∀ T ∈ Ts, P.readableRec T = true ∧ T < P.types.size) →
    DataW.TrodAll enc P W 0 (fun _ => true) true Ts vs ds ps → (∀ x ∈ ps, x.block < W.heap.size) → ∀ sp : Nat → Bool, (∀ x ∈ ps, sp x.block = true) → DataW.TrodAll enc P W' 0 sp true Ts vs ds ps
  | [], [], [], _, _, h, _, _, _ => h
  | T :: Ts, v :: vs, d :: ds, _, hr, h, hlt, sp, hsp => by
    obtain ⟨p, q, h1, h2, rfl⟩ := h
    refine ⟨p, q, ?_, trodAll_later hl hb Ts vs ds q (fun U hU => hr U (by simp [hU])) h2 (fun x hx => hlt x (by simp [hx])) sp (fun x hx => hsp x (by simp [hx])), rfl⟩
    exact WideElems.Trod_stays hl (hr T (by simp)).1 (hr T (by simp)).2 h1 (fun x hx => hb.same (hlt x (by simp [hx]))) (fun x hx => hsp x (by simp [hx]))
  | [], [], _ :: _, _, _, h, _, _, _ => h.elim
  | [], _ :: _, _, _, _, h, _, _, _ => h.elim
  | _ :: _, [], _, _, _, h, _, _, _ => h.elim
  | _ :: _, _ :: _, [], _, _, h, _, _, _ => h.elim

end Go.FK
