import Derived.Test.YtnjpocbcfkfphaaDoorF4
import Derived.RangeFuncKeeps
import Derived.RangeFuncLeaves
import Derived.TacticsIn
import Derived.OrdersIn
import Derived.Maps.AppendAt
import Derived.Laws.OwnMore

/- A range over an iterator that keeps its own state in a block: the iterator's contract, and the law of the caller. -/
namespace Go.FK
open Go.RowKit
variable {P : Program} {E : Type}
def Chg (S : Nat → Prop) (w w' : World) : Prop := Beyond (fun q => S q ∨ w.heap.size ≤ q) w w'
theorem Chg.block {S : Nat → Prop} {w w' : World} (h : Chg S w w') {b : Nat} (hb : b < w.heap.size) (hn : ¬ S b) : w'.heap[b]? = w.heap[b]? := Beyond.block h b fun e => e.elim hn (fun e => by omega)
theorem Chg.agree {S : Nat → Prop} {w w' : World} (h : Chg S w w') : Agree S w w' := ⟨Beyond.size h, fun _ hb hn => h.block hb hn⟩
theorem Chg.mono {S S' : Nat → Prop} {w w' : World} (h : Chg S w w') (hS : ∀ q, S q → S' q) : Chg S' w w' := ⟨Beyond.os h, Beyond.tape h, Beyond.output h, Beyond.size h, fun _ hk => Beyond.block h _ fun e => hk (e.imp (hS _) id)⟩
theorem Chg.refl (S : Nat → Prop) (w : World) : Chg S w w := Beyond.refl _ _
theorem Chg.trans {S : Nat → Prop} {a b c : World} (h : Chg S a b) (k : Chg S b c) : Chg S a c := by
  refine Beyond.trans h ⟨Beyond.os k, Beyond.tape k, Beyond.output k, Beyond.size k, fun q hq => Beyond.block k q fun e => hq (e.imp id fun e => Nat.le_trans (Beyond.size h) e)⟩
theorem Chg.of_below {S : Nat → Prop} {w w' : World} (h : Below w.heap.size w w') : Chg S w w' := Beyond.of_below h fun _ h => .inr h
end Go.FK


/- Pieces of code at a frame of a round, and around a call of yield. -/
namespace Go.FK
open Go.RowKit
variable {P : Program} {X R : Type} {nt : NT}
end Go.FK


/- A state taken up again behind a round; a loop whose rounds are counted by something unseen. -/
namespace Go.FK
open Go.RowKit
variable {P : Program} {nt : NT}
theorem ownsRow_same {w w' : World} {base : Nat} {e : TypeId} {size : Nat} {v : Value} {n : Nat} {xs : List Value} (h : w.ownsRow base e size v n xs) (hb : ∀ b, v.ownBlock = some b → w'.heap[b]? = w.heap[b]?) : w'.ownsRow base e size v n xs := by
  refine ⟨h.1, h.2.imp id ?_⟩
  rintro ⟨g, cap, cur, e1, e2, e3, e4⟩
  exact ⟨g, cap, cur, e1, e2, (hb g (by rw [e1]; rfl)).trans e3, e4⟩
theorem Matches.put {M0 : Nat → Prop} {b0 : Nat → Prop} {w0 w : World} {s : St} {a : Act} (hm : Matches M0 b0 w0 nt s a w) (dst : Option Tmp) {av : AV} {v : Value} (hv : ∀ M ν dom obs w, RepA M ν dom obs w av v) : Matches M0 b0 w0 nt ⟨FK.put s.fr dst av, s.obs⟩ (a.put dst v) w := by
  obtain ⟨h1, h2, h3, hn3, ν, hw, hg, hr⟩ := hm
  exact put_matches h1 h2 h3 hn3 hw hg hr dst (hv _ _ _ _ _)
theorem put_keeps {a a0 : Act} {t : Tmp} {dst : Option Tmp} {v : Value} (h0 : a0.tmps = a.tmps) (h : dst ≠ some t) : (a0.put dst v).tmps.getD t undef = a.tmps.getD t undef := by
  cases dst with
  | none => show a0.tmps.getD t undef = _; rw [h0]
  | some d =>
    have hdt : d ≠ t := fun e => h (by rw [e])
    show (a0.tmps.setIfInBounds d v).getD t undef = _
    rw [← h0]
    simp [Array.getD_eq_getD_getElem?, Array.getElem?_setIfInBounds_ne hdt]
section
variable {w : World} {a : Act} {o : Oper}
theorem newVar_at (M : Nat → Prop) {T : TypeId} {t : Ty} {x : t.D} {cs : List Value} {v : Value} (hv : v.cells = cs.toArray) (hr : Rep M w t x cs) :
    (newVar T v).run P w = .ok ⟨w.heap.size, 0, none⟩ (w.alloc (.cells cs.toArray T)) ∧ Below w.heap.size w (w.alloc (.cells cs.toArray T)) ∧
      (w.alloc (.cells cs.toArray T)).ownsRow 0 T t.sz (.slice (some ⟨w.heap.size, 0, none⟩) 1 1) 1 cs := by
  have hl := Rep.len _ _ _ hr
  refine ⟨by simp [newVar, newRow, hv], (Below.refl _ _).alloc (Nat.le_refl _) _, ⟨by simpa using hl, .inr ⟨w.heap.size, 1, cs.toArray, rfl, Nat.zero_le _, World.alloc_heap_new w _, Nat.le_refl _, by decide, by simpa using hl, by rw [List.toList_toArray, Nat.one_mul, ← hl, List.take_length]⟩⟩⟩
end
theorem put_get {a : Act} {d : Tmp} {v : Value} (h : d < a.tmps.size) : (a.put (some d) v).tmps.getD d undef = v := by
  show (a.tmps.setIfInBounds d v).getD d undef = v
  simp [Array.getD_eq_getD_getElem?, h]
theorem put_size {a : Act} {d : Option Tmp} {v : Value} : (a.put d v).tmps.size = a.tmps.size := by
  cases d with
  | none => rfl
  | some d => show (a.tmps.setIfInBounds d v).size = _; simp
theorem put_oth {a : Act} {t : Tmp} {d : Option Tmp} {v : Value} (h : d ≠ some t) : (a.put d v).tmps.getD t undef = a.tmps.getD t undef := put_keeps rfl h
theorem mem_keep {M M' : Nat → Prop} {ν ν' : Nat → Value} {dom dom' : Nat → Prop} {obs obs' : Obs} {w w' : World} {t : Ty} {x : t.D} {v : Value} (h : RepA M ν dom obs w (.mem t x) v) (hA : Agree M w w') (hM : ∀ q, q < w.heap.size → M' q → M q) : RepA M' ν' dom' obs' w' (.mem t x) v := by
  obtain ⟨h1, ad, cs, h2, h3, h4, h5, h6⟩ := h
  refine ⟨h1, ad, cs, h2, Nat.lt_of_lt_of_le h3 hA.size, fun hq => h4 (hM _ h3 hq), Rep.next hA hM _ _ _ h5, fun j u hj => hA.cell (by rw [block_add]; exact h4) (h6 j u hj)⟩
end Go.FK


/- Code walked in a round (no loop in it, nothing put off); a loop's own variables between the rounds. -/
namespace Go.FK
open Go.RowKit
variable {P : Program} {X R : Type} {nt : NT}
section
variable {E : Env X} (hty : ∀ T ti, E.ty T = some ti → TyOk P T ti) (hfn : FnsOk P E) (hmix : P.follows .mixedOrders = true) (hpt : ∀ p, E.pt p = none) {r : X} {M0 : Nat → Prop} {b0 : Nat → Prop} {w0 : World} {ro : Option Nat}
end
theorem RepA.next {M M' : Nat → Prop} {ν : Nat → Value} {dom : Nat → Prop} {obs : Obs} {w w' : World} (hA : Agree M w w') (hM : ∀ q, q < w.heap.size → M' q → M q) {av : AV} {v : Value} (h : RepA M ν dom obs w av v) : RepA M' ν dom obs w' av v := by
  cases av with
  | val t x => exact RepV.next hA hM h
  | tup l =>
    obtain ⟨vs, e, h1, h2⟩ := h
    exact ⟨vs, e, h1, fun i d hi => by
      obtain ⟨u, hu, hr⟩ := h2 i d hi
      exact ⟨u, hu, RepV.next hA hM hr⟩⟩
  | tupo id l =>
    obtain ⟨h0, vs, e, h1, h3, h2⟩ := h
    exact ⟨h0, vs, e, h1, h3, fun i d hi => by
      obtain ⟨u, hu, hr⟩ := h2 i d hi
      exact ⟨u, hu, RepV.next hA hM hr⟩⟩
  | mem t x => exact mem_keep h hA hM
  | tab k l =>
    obtain ⟨a, h1, h2, h3, h4⟩ := h
    exact ⟨a, h1, Nat.lt_of_lt_of_le h2 hA.size, fun hq => h3 (hM _ h2 hq), fun j x hj => hA.cell (by rw [block_add]; exact h3) (h4 j x hj)⟩
  | _ => exact h
theorem ORow.same {w w' : World} {e : TypeId} {t : Ty} {v : Value} {n : Nat} {xs : List Value} (h : ORow w e t v n xs) (hb : ∀ b, v.ownBlock = some b → w'.heap[b]? = w.heap[b]?) : ORow w' e t v n xs := by
  refine ⟨fun ht => ownsRow_same (h.1 ht) hb, fun ht => ?_⟩
  obtain ⟨k, s, p, e1, e2, e3, hk⟩ := h.2 ht
  exact ⟨k, s, p, e1, e2, e3, (hb k (by rw [e1]; rfl)).trans hk⟩
theorem ObOk.next {M M' b0 b1 : Nat → Prop} {w w' : World} (hA : Agree M w w') (hM : ∀ q, q < w.heap.size → M' q → M q) {v : Value} {ob : Ob} (hb : ∀ b, v.ownBlock = some b → w'.heap[b]? = w.heap[b]? ∧ b1 b) (h : ObOk M b0 w v ob) : ObOk M' b1 w' v ob := by
  obtain ⟨h1, h2, xs, h3, h4⟩ := h
  exact ⟨h1, h2, xs, ⟨h3.1.same fun b e => (hb b e).1, fun b e => (hb b e).2⟩, h4.next hA hM⟩
theorem Matches.keep {M0 b0 S : Nat → Prop} {w0 w w' : World} {s : St} {a : Act} (h : Matches M0 b0 w0 nt s a w) (hC : Chg S w w') (hS : ∀ q, S q → M0 q) : Matches M0 b0 w' nt s a w' := by
  obtain ⟨h1, h2, h3, hn3, ν, hw, hg, hr⟩ := h
  have hA : Agree (Msum M0 ν (obF s.obs)) w w' := ⟨hC.agree.size, fun q hq hn => hC.block hq fun h => hn (.inl (hS q h))⟩
  refine ⟨h1, Beyond.refl _ _, h3, hn3, ν, hw, ⟨hg.m0, hg.gl.next hC.agree.size (fun q hq hn => hC.block hq fun h => hn (.inl (hS q h))) (fun _ _ h => h), fun b hb => hg.hb b (Nat.le_trans hC.agree.size hb), fun i ob ho => ?_, hg.ne⟩, fun t => (hr t).next hA fun _ _ h => h⟩
  have hob := hg.ob i ob ho
  obtain ⟨_, _, xs, h4, _⟩ := id hob
  refine hob.next hA (fun _ _ h => h) fun b e => ⟨?_, h4.2 b e⟩
  exact hC.block (h4.1.lt b e).2 fun h => hg.m0 b (hS b h) (h4.2 b e)
def Yb (ros : List Value) (q : Nat) : Prop := ∃ (j : Nat) (v : Value), ros[j]? = some v ∧ v.ownBlock = some q
def rowAt (ros : List Value) (j : Nat) : Value := (ros[j]?).getD undef
structure LoopG (M0 : Nat → Prop) (ros : List Value) (obs : List Ob) (W : World) : Prop where
  len : ros.length = obs.length
  ok : ∀ ob ∈ obs, ob.t.ok false = true
  good : Good M0 (fun q => W.heap.size ≤ q ∨ Yb ros q) (rowAt ros) (obF (obs.map some)) W
theorem obF_map {obs : List Ob} {id : Nat} {ob : Ob} : obF (obs.map some) id = some ob ↔ obs[id]? = some ob := by
  unfold obF
  rw [nthD_eq, List.getD_eq_getElem?_getD, List.getElem?_map]
  cases obs[id]? <;> simp
theorem LoopG.row {M0 : Nat → Prop} {ros : List Value} {obs : List Ob} {W : World} (h : LoopG M0 ros obs W) {j : Nat} {v : Value} (hj : ros[j]? = some v) : ∃ ob xs, obs[j]? = some ob ∧ W.ownsRow 0 ob.e ob.t.sz v ob.l.length xs := by
  have hlt := (List.getElem?_eq_some_iff.1 hj).1
  have ho : obs[j]? = some (obs[j]'(by rw [← h.len]; exact hlt)) := List.getElem?_eq_getElem _
  obtain ⟨_, _, xs, h4, _⟩ := h.good.ob j _ (obF_map.2 ho)
  have e : rowAt ros j = v := by simp [rowAt, hj]
  rw [e] at h4
  exact ⟨_, xs, ho, h4.1.1 (h.ok _ (List.mem_of_getElem? ho))⟩
theorem LoopG.lt {M0 : Nat → Prop} {ros : List Value} {obs : List Ob} {W : World} (h : LoopG M0 ros obs W) {q : Nat} (hq : Yb ros q) : q < W.heap.size ∧ ¬ M0 q := by
  obtain ⟨j, v, hj, hv⟩ := id hq
  obtain ⟨ob, xs, _, hr⟩ := h.row hj
  exact ⟨(hr.lt q hv).2, fun hm => h.good.m0 q hm (.inr hq)⟩
theorem LoopG.msum {M0 : Nat → Prop} {ros : List Value} {obs : List Ob} {W : World} (h : LoopG M0 ros obs W) (q : Nat) : Msum M0 (rowAt ros) (obF (obs.map some)) q ↔ M0 q ∨ Yb ros q := by
  constructor
  · rintro (hq | ⟨id, ob, ho, hb⟩)
    · exact .inl hq
    · have hlt : id < ros.length := by rw [h.len]; exact (List.getElem?_eq_some_iff.1 (obF_map.1 ho)).1
      refine .inr ⟨id, rowAt ros id, ?_, hb⟩
      simp [rowAt, List.getElem?_eq_getElem hlt]
  · rintro (hq | ⟨j, v, hj, hv⟩)
    · exact .inl hq
    · obtain ⟨ob, xs, ho, _⟩ := h.row hj
      refine .inr ⟨j, ob, obF_map.2 ho, ?_⟩
      unfold rowAt
      rw [hj]; exact hv
theorem LoopG.gl {M0 : Nat → Prop} {ros : List Value} {obs : List Ob} {W : World} (h : LoopG M0 ros obs W) : Gl (fun q => Yb ros q ∨ M0 q) W :=
  h.good.gl.next (Nat.le_refl _) (fun _ _ _ => rfl) fun _q _ hq => hq.elim (fun h => .inr (.inr h)) .inl
theorem LoopG.keep {M0 M1 S : Nat → Prop} {ros : List Value} {obs : List Ob} {W W' : World} (h : LoopG M0 ros obs W) (hC : Chg S W W') (hS : ∀ q, S q → M0 q) (hM : ∀ q, q < W.heap.size → M1 q → M0 q) (hMs : ∀ q, M1 q → q < W'.heap.size) : LoopG M1 ros obs W' := by
  have hsz := hC.agree.size
  have hA : Agree (Msum M0 (rowAt ros) (obF (obs.map some))) W W' := ⟨hsz, fun q hq hn => hC.block hq fun h => hn (.inl (hS q h))⟩
  have hMM : ∀ q, q < W.heap.size → Msum M1 (rowAt ros) (obF (obs.map some)) q → Msum M0 (rowAt ros) (obF (obs.map some)) q := fun q hq hm => hm.elim (fun h => .inl (hM q hq h)) .inr
  refine ⟨h.len, h.ok, ⟨?_, h.good.gl.next hsz (fun q hq hn => hC.block hq fun h => hn (.inl (hS q h))) ?_, fun b hb => .inl hb, fun i ob ho => ?_, h.good.ne⟩⟩
  · rintro q hq (h1 | h1)
    · have := hMs q hq; omega
    · exact (h.lt h1).2 (hM q (h.lt h1).1 hq)
  · rintro q hq (h1 | h1 | h1)
    · exact .inl (hM q hq h1)
    · omega
    · exact .inr (.inr h1)
  · have hob := h.good.ob i ob ho
    obtain ⟨_, _, xs, h4, _⟩ := id hob
    refine hob.next hA hMM fun b e => ?_
    have hlt := (h4.1.lt b e).2
    have hY : Yb ros b := by
      rcases (h.msum b).1 (.inr ⟨i, ob, ho, e⟩) with h1 | h1
      · exact absurd (h4.2 b e) (h.good.m0 b h1)
      · exact h1
    exact ⟨hC.block hlt fun h1 => (h.lt hY).2 (hS b h1), .inr hY⟩
def SlotR (ros : List Value) (av : AV) (v : Value) : Prop := av = .bad ∨ ∃ j g c, av = .ptr j 0 [] ∧ ros[j]? = some (.slice (some ⟨g, 0, none⟩) 1 c) ∧ v = .pointer (some ⟨g, 0, none⟩)
theorem LoopG.back {M0 b0 : Nat → Prop} {w0 W : World} {n : Nat} {ros : List Value} {df : List Deferred} {fr : List AV} {obs : List Ob} {a : Act} (h : Matches M0 b0 w0 ⟨n, ros, df⟩ ⟨fr, obs.map some⟩ a W) (hl : ros.length = obs.length) (hok : ∀ ob ∈ obs, ob.t.ok false = true) :
    LoopG M0 ros obs W ∧ Beyond b0 w0 W ∧ ∀ q, Yb ros q → b0 q := by
  obtain ⟨h1, h2, h3, hn3, ν, hw, hg, hr⟩ := h
  have hν : ∀ id ob, obF (obs.map some) id = some ob → ν id = rowAt ros id := by
    intro id ob ho
    have hlt : id < ros.length := by rw [hl]; exact (List.getElem?_eq_some_iff.1 (obF_map.1 ho)).1
    have := (hw id _ (List.getElem?_eq_getElem hlt)).2
    rw [this]
    simp [rowAt, List.getElem?_eq_getElem hlt]
  have hY : ∀ q, Yb ros q → b0 q := by
    rintro q ⟨j, v, hj, hv⟩
    have hlt := (List.getElem?_eq_some_iff.1 hj).1
    have ho : obs[j]? = some (obs[j]'(by rw [← hl]; exact hlt)) := List.getElem?_eq_getElem _
    obtain ⟨_, _, xs, h4, _⟩ := hg.ob j _ (obF_map.2 ho)
    have := (hw j v hj).2
    exact h4.2 q (by rw [this]; exact hv)
  have hms : Msum M0 (rowAt ros) (obF (obs.map some)) = Msum M0 ν (obF (obs.map some)) := by
    funext q
    apply propext
    constructor <;> rintro (hq | ⟨id, ob, ho, hb⟩)
    · exact .inl hq
    · exact .inr ⟨id, ob, ho, by rw [hν id ob ho]; exact hb⟩
    · exact .inl hq
    · exact .inr ⟨id, ob, ho, by rw [← hν id ob ho]; exact hb⟩
  refine ⟨⟨hl, hok, ⟨?_, hg.gl.next (Nat.le_refl _) (fun _ _ _ => rfl) ?_, fun b hb => .inl hb, fun id ob ho => ?_, fun i j obi obj hi hj hij => ?_⟩⟩, h2, hY⟩
  · rintro q hq (h1 | h1)
    · exact hg.m0 q hq (hg.hb q h1)
    · exact hg.m0 q hq (hY q h1)
  · rintro q _ (h1 | h1 | h1)
    · exact .inl h1
    · exact .inr (hg.hb q h1)
    · exact .inr (hY q h1)
  · have := hg.ob id ob ho
    rw [hν id ob ho] at this
    rw [hms]
    obtain ⟨k1, k2, xs, k3, k4⟩ := this
    refine ⟨k1, k2, xs, ⟨k3.1, fun b e => .inr ?_⟩, k4⟩
    have hlt : id < ros.length := by rw [hl]; exact (List.getElem?_eq_some_iff.1 (obF_map.1 ho)).1
    refine ⟨id, rowAt ros id, ?_, e⟩
    simp [rowAt, List.getElem?_eq_getElem hlt]
  · have := hg.ne i j obi obj hi hj hij
    rwa [hν i obi hi, hν j obj hj] at this
theorem Matches.slot {M0 b0 : Nat → Prop} {w0 w : World} {n : Nat} {ros : List Value} {df : List Deferred} {fr : List AV} {obs : List Ob} {a : Act} (h : Matches M0 b0 w0 ⟨n, ros, df⟩ ⟨fr, obs.map some⟩ a w) (hl : ros.length = obs.length) (hok : ∀ ob ∈ obs, ob.t.ok false = true ∧ ob.l.length = 1) {t j : Nat} (ht : nthD .bad fr t = .ptr j 0 []) :
    SlotR ros (nthD .bad fr t) (a.tmps.getD t undef) := by
  obtain ⟨h1, h2, h3, hn3, ν, hw, hg, hr⟩ := h
  have hrt := hr t
  have ht' : nthD .bad (⟨fr, obs.map some⟩ : St).fr t = .ptr j 0 [] := ht
  rw [ht'] at hrt
  obtain ⟨hd, hrt⟩ := hrt
  have hlt : j < obs.length := by simpa using hd
  have ho : obs[j]? = some (obs[j]) := List.getElem?_eq_getElem _
  obtain ⟨_, g, n', c, k2, k3⟩ := hrt _ (obF_map.2 ho)
  obtain ⟨_, _, xs, h4, _⟩ := hg.ob j _ (obF_map.2 ho)
  have hk := hok _ (List.mem_of_getElem? ho)
  have hn : n' = 1 := by
    rw [k2] at h4
    obtain ⟨A, c', h'⟩ := h4.1.slice
    injection h' with _ h2 _
    rw [h2]; exact hk.2
  subst hn
  have hlr : j < ros.length := by omega
  have hv := (hw j _ (List.getElem?_eq_getElem hlr)).2
  refine .inr ⟨j, g, c, ht, ?_, ?_⟩
  · rw [List.getElem?_eq_getElem hlr, ← hv, k2]
  · rw [k3]; simp [offP]
end Go.FK


/- A builder of trees: lists that are open, each with a row of branches of its own, and what is whole: what memory holds, and what appends, stores and cuts make of it. -/
namespace Go.FK
open Go.RowKit
abbrev TokD := Int × ByteArray × Int × Int × Int × Int
structure OpD where
  t : TokD
  v : Value
  k : List NodeD
def opC (o : OpD) : List Value := tokC o.t ++ [o.v]
theorem opC_len (o : OpD) : (opC o).length = 7 := rfl
def opsC (os : List OpD) : List Value := os.flatMap opC
theorem opsC_len : ∀ os : List OpD, (opsC os).length = os.length * 7
  | [] => rfl
  | o :: os => by
    have := opsC_len os
    simp only [opsC, List.flatMap_cons, List.length_append, opC_len, List.length_cons] at *
    omega
theorem opsC_app (os ps : List OpD) : opsC (os ++ ps) = opsC os ++ opsC ps := List.flatMap_append ..
theorem opsC_one (o : OpD) : opsC [o] = opC o := by simp [opsC]
theorem splice_two {rs : List Value} {k : Nat} {a b : Value} (h : seg rs k 2 = [a, b]) (x y : Value) : splice (splice rs (k + 0) [x]) (k + 1) [y] = splice rs k [x, y] ∧ splice rs k [a, b] = rs ∧ splice rs (k + 1) [y] = splice rs k [a, y] ∧ splice rs (k + 0) [x] = splice rs k [x, b] := by
  have hl : k + 2 ≤ rs.length := by
    have := congrArg List.length h
    simp [seg] at this
    omega
  have ha : rs[k]? = some a := by have := congrArg (fun l => l[0]?) h; simpa [seg_getElem] using this
  have hb : rs[k + 1]? = some b := by have := congrArg (fun l => l[1]?) h; simpa [seg_getElem] using this
  have h2 : ∀ (u v : Value) (j : Nat), (splice rs k [u, v])[j]? = if j = k then some u else if j = k + 1 then some v else rs[j]? := by
    intro u v j
    rw [splice_get _ _ _ (by simp; omega)]
    by_cases c1 : j = k
    · subst c1; simp
    · by_cases c2 : j = k + 1
      · subst c2; simp [show ¬ k + 1 < k by omega]
      · by_cases c3 : j < k
        · simp [c3, c1, c2]
        · rw [if_neg c3, if_neg (by simp; omega), if_neg c1, if_neg c2]
  have h1 : ∀ (l : List Value) (i : Nat) (u : Value) (j : Nat), i < l.length → (splice l i [u])[j]? = if j = i then some u else l[j]? := by
    intro l i u j hi
    rw [splice_get _ _ _ (by simp; omega)]
    by_cases c1 : j = i
    · subst c1; simp
    · by_cases c3 : j < i
      · simp [c3, c1]
      · rw [if_neg c3, if_neg (by simp; omega), if_neg c1]
  refine ⟨?_, ?_, ?_, ?_⟩
  · apply List.ext_getElem?
    intro j
    rw [h1 _ _ _ _ (by rw [splice_len _ _ _ (by simp; omega)]; omega), h1 _ _ _ _ (by omega), h2, Nat.add_zero]
    by_cases c1 : j = k
    · subst c1; simp
    · by_cases c2 : j = k + 1 <;> simp [c1, c2]
  · apply List.ext_getElem?
    intro j
    rw [h2]
    by_cases c1 : j = k
    · subst c1; simp [ha]
    · by_cases c2 : j = k + 1
      · subst c2; simp [hb]
      · simp [c1, c2]
  · apply List.ext_getElem?
    intro j
    rw [h1 _ _ _ _ (by omega), h2]
    by_cases c1 : j = k
    · subst c1; simp [ha]
    · by_cases c2 : j = k + 1 <;> simp [c1, c2]
  · apply List.ext_getElem?
    intro j
    rw [h1 _ _ _ _ (by omega), h2, Nat.add_zero]
    by_cases c1 : j = k
    · subst c1; simp
    · by_cases c2 : j = k + 1
      · subst c2; simp [hb]
      · simp [c1, c2]
theorem seg_splice {rs cs : List Value} {k : Nat} (h : k + cs.length ≤ rs.length) : seg (splice rs k cs) k cs.length = cs := by
  apply List.ext_getElem?
  intro j
  rw [seg_getElem]
  by_cases c : j < cs.length
  · rw [if_pos c, splice_get _ _ _ h, if_neg (by omega), if_pos (by omega)]
    congr 1; omega
  · rw [if_neg c, List.getElem?_eq_none (by omega)]
theorem splice_again {rs cs vs : List Value} {k : Nat} (h : k + cs.length ≤ rs.length) (hl : vs.length = cs.length) : splice (splice rs k cs) k vs = splice rs k vs := by
  apply List.ext_getElem?
  intro j
  rw [splice_get _ _ _ (by rw [splice_len _ _ _ h]; omega), splice_get _ _ _ h, splice_get _ _ _ (by omega)]
  by_cases c1 : j < k
  · simp [c1]
  · by_cases c2 : j < k + vs.length
    · simp [c1, c2]
    · simp [c1, c2, show ¬ j < k + cs.length by omega]
def Foot (vo vd : Value) (os : List OpD) (b : Nat) : Prop := vo.ownBlock = some b ∨ vd.ownBlock = some b ∨ ∃ (i : Nat) (o : OpD), os[i]? = some o ∧ o.v.ownBlock = some b
structure BOk (M : Nat → Prop) (NT : TypeId) (w : World) (vo vd : Value) (os : List OpD) (ds : List NodeD) : Prop where
  o : w.ownsRow 0 NT 7 vo os.length (opsC os)
  k : ∀ (i : Nat) (o : OpD), os[i]? = some o → ∃ ys, w.ownsRow 0 NT 7 o.v o.k.length ys ∧ RepRow (fun b => M b ∨ Foot vo vd os b) w nodeT (o.k.map NodeD.un) ys
  d : ∃ zs, w.ownsRow 0 NT 7 vd ds.length zs ∧ RepRow (fun b => M b ∨ Foot vo vd os b) w nodeT (ds.map NodeD.un) zs
  od : ∀ b, vo.ownBlock = some b → vd.ownBlock ≠ some b
  ok : ∀ (b i : Nat) (o : OpD), os[i]? = some o → o.v.ownBlock = some b → vo.ownBlock ≠ some b ∧ vd.ownBlock ≠ some b
  kk : ∀ (b i j : Nat) (o p : OpD), os[i]? = some o → os[j]? = some p → o.v.ownBlock = some b → p.v.ownBlock = some b → i = j
  m : ∀ b, Foot vo vd os b → ¬ M b
def openTok (t : TokD) : TokD := (0, ⟨#[]⟩, t.2.2.1, 0, t.2.2.2.2.1, t.2.2.2.2.2)
def endTok (u t : TokD) : TokD := (u.1, u.2.1, u.2.2.1, t.2.2.2.1, u.2.2.2.2.1, u.2.2.2.2.2)
abbrev BSt := List (TokD × List NodeD) × List NodeD
def bputS : BSt → NodeD → BSt
  | ([], ds), n => ([], ds ++ [n])
  | ((t, k) :: r, ds), n => ((t, k ++ [n]) :: r, ds)
def btakeS (s : BSt) (t : TokD) : BSt ⊕ (Int × Int) :=
  if t.1 = 1 then (if s.1.length = 1000 then .inr (132, t.2.2.1) else .inl ((openTok t, []) :: s.1, s.2))
  else if t.1 = 2 then (match s.1 with
    | [] => .inr (130, t.2.2.1)
    | (u, k) :: r => .inl (bputS (r, s.2) (.mk (endTok u t) k)))
  else .inl (bputS s (.mk t []))
def ballS : BSt → List TokD → BSt × Int × Int
  | s, [] => (s, 0, 0)
  | s, t :: l => match btakeS s t with
    | .inl s' => ballS s' l
    | .inr e => (s, e)
def BLim (N : Nat) (s : BSt) : Prop := s.2.length ≤ N ∧ s.1.length ≤ 1000 ∧ ∀ x ∈ s.1, x.2.length ≤ N
theorem BLim.put {N : Nat} {s : BSt} (h : BLim N s) (n : NodeD) : BLim (N + 1) (bputS s n) := by
  obtain ⟨s1, ds⟩ := s
  cases s1 with
  | nil => exact ⟨by have := h.1; simp [bputS] at *; omega, by simp [bputS], fun x hx => by simp [bputS] at hx⟩
  | cons x r =>
    obtain ⟨t, k⟩ := x
    refine ⟨Nat.le_succ_of_le h.1, h.2.1, fun y hy => ?_⟩
    rcases List.mem_cons.1 hy with rfl | hy
    · have := h.2.2 (t, k) (List.mem_cons_self ..)
      simp at *; omega
    · exact Nat.le_succ_of_le (h.2.2 y (List.mem_cons_of_mem _ hy))
theorem BLim.take {N : Nat} {s s' : BSt} {t : TokD} (h : BLim N s) (ht : btakeS s t = .inl s') : BLim (N + 1) s' := by
  unfold btakeS at ht
  split at ht
  · split at ht
    · cases ht
    · cases ht
      refine ⟨Nat.le_succ_of_le h.1, ?_, fun x hx => ?_⟩
      · have := h.2.1; simp; omega
      · rcases List.mem_cons.1 hx with rfl | hx
        · simp
        · exact Nat.le_succ_of_le (h.2.2 x hx)
  · split at ht
    · split at ht
      · cases ht
      · rename_i u k r hs
        cases ht
        refine BLim.put (s := (r, s.2)) ⟨h.1, ?_, fun x hx => h.2.2 x (by rw [hs]; exact List.mem_cons_of_mem _ hx)⟩ _
        have := h.2.1; rw [hs] at this; simp at this ⊢; omega
    · cases ht
      exact h.put _
def absO (os : List OpD) : List (TokD × List NodeD) := (os.map fun o => (o.t, o.k)).reverse
theorem absO_nil : absO [] = [] := rfl
theorem absO_snoc (os : List OpD) (p : OpD) : absO (os ++ [p]) = (p.t, p.k) :: absO os := by simp [absO]
theorem absO_len (os : List OpD) : (absO os).length = os.length := by simp [absO]
abbrev SCD := Int × ByteArray × Bool × TokD × Int
def limN : Nat := 274877906944
def limB (b : BSt) (n : Nat) : Bool := decide (b.2.length + n ≤ limN) && decide (b.1.length ≤ 1000) && b.1.all fun x => decide (x.2.length + n ≤ limN)
theorem limB_ok {b : BSt} {n : Nat} (h : limB b n = true) : BLim (limN - n) b := by
  simp only [limB, Bool.and_eq_true, decide_eq_true_eq, List.all_eq_true] at h
  exact ⟨by have := h.1.1; omega, h.1.2, fun x hx => by have := h.2 x hx; omega⟩
theorem limB_n {b : BSt} {n : Nat} (h : limB b n = true) : n ≤ limN := by
  simp only [limB, Bool.and_eq_true, decide_eq_true_eq] at h
  have := h.1.1; omega
def tookF (atF : SCD → Option (SCD × TokD)) (sc : SCD) (b : BSt) (l : List TokD) (err : Int) : Option (SCD × BSt × (Int × Int) × List NodeD) :=
  bif limB b l.length then
    bif decide ((ballS b l).2.1 = 0) && !decide (err = 0) then (atF sc).bind fun x => some (x.1, ((ballS b l).1.1, []), (err, x.2.2.2.1), (ballS b l).1.2)
    else some (sc, ((ballS b l).1.1, []), (ballS b l).2, (ballS b l).1.2)
  else none
def feedR (feedF : SCD → ByteArray → Option (SCD × List TokD × Int)) (atF : SCD → Option (SCD × TokD)) (sc : SCD) (b : BSt) (s : ByteArray) : Option (SCD × BSt × (Int × Int) × List NodeD) :=
  (feedF sc s).bind fun x => tookF atF x.1 b x.2.1 x.2.2
def outer (b : BSt) : Int := match b.1.reverse with
  | [] => 0
  | x :: _ => x.1.2.2.1
def endR (endF : SCD → Option (SCD × List TokD × Int)) (atF : SCD → Option (SCD × TokD)) (sc : SCD) (b : BSt) : Option (SCD × BSt × (Int × Int) × List NodeD) :=
  (endF sc).bind fun x => (tookF atF x.1 b x.2.1 x.2.2).bind fun y =>
    bif decide (y.2.2.1.1 = 0) && !decide (y.2.1.1.length = 0) then some (y.1, y.2.1, (131, outer y.2.1), y.2.2.2) else some y
def readF (newF : Option (List SCD)) (feedF : SCD → ByteArray → Option (SCD × List TokD × Int)) (endF : SCD → Option (SCD × List TokD × Int)) (atF : SCD → Option (SCD × TokD)) (s : ByteArray) : Option (List NodeD × Int × Int) :=
  newF.bind fun l => match l with
    | [sc] => (feedR feedF atF sc ([], []) s).bind fun x =>
      bif !decide (x.2.2.1.1 = 0) then some (x.2.2.2, x.2.2.1.1, x.2.2.1.2)
      else (endR endF atF x.1 x.2.1).bind fun y => bif decide (x.2.2.2.length + y.2.2.2.length ≤ limN) then some (x.2.2.2 ++ y.2.2.2, y.2.2.1.1, y.2.2.1.2) else none
    | _ => none
def buildF (l : List TokD) : Option ((List ((Int × ByteArray × Int × Int × Int × Int) × List NodeD)) × (List ((Int × ByteArray × Int × Int × Int × Int) × List NodeD)) × Int × Int) :=
  bif limB ([], []) l.length then some ((ballS ([], []) l).1.2.map NodeD.un, (ballS ([], []) l).1.1.reverse, (ballS ([], []) l).2) else none
variable {M : Nat → Prop} {NT : TypeId} {w w' : World} {vo vd : Value} {os : List OpD} {ds : List NodeD}
theorem foot_push {v' : Value} {H n : Nat} (h3 : v'.ownBlock = vd.ownBlock ∨ v'.ownBlock = some H) (hH : n ≤ H) : ∀ b, b < n → Foot vo v' os b → Foot vo vd os b := by
  rintro b hb (hf | hf | hf)
  · exact .inl hf
  · rcases h3 with e | e
    · exact .inr (.inl (e ▸ hf))
    · rw [e] at hf; cases hf; omega
  · exact .inr (.inr hf)
theorem foot_opened {v' : Value} {t : TokD} {H n : Nat} (h3 : v'.ownBlock = vo.ownBlock ∨ v'.ownBlock = some H) (hH : n ≤ H) : ∀ b, b < n → Foot v' vd (os ++ [⟨t, .slice none 0 0, []⟩]) b → Foot vo vd os b := by
  rintro b hb (hf | hf | ⟨i, o, hi, hf⟩)
  · rcases h3 with e | e
    · exact .inl (e ▸ hf)
    · rw [e] at hf; cases hf; omega
  · exact .inr (.inl hf)
  · by_cases hlt : i < os.length
    · rw [List.getElem?_append_left hlt] at hi; exact .inr (.inr ⟨i, o, hi, hf⟩)
    · rw [List.getElem?_append_right (by omega)] at hi
      cases hc : i - os.length with
      | zero => rw [hc] at hi; simp at hi; subst hi; cases hf
      | succ q => rw [hc] at hi; simp at hi
theorem foot_grow {v' : Value} {p : OpD} {k : List NodeD} {H n : Nat} (h3 : v'.ownBlock = p.v.ownBlock ∨ v'.ownBlock = some H) (hH : n ≤ H) : ∀ b, b < n → Foot vo vd (os ++ [⟨p.t, v', k⟩]) b → Foot vo vd (os ++ [p]) b := by
  rintro b hb (hf | hf | ⟨i, o, hi, hf⟩)
  · exact .inl hf
  · exact .inr (.inl hf)
  · by_cases hlt : i < os.length
    · rw [List.getElem?_append_left hlt] at hi
      exact .inr (.inr ⟨i, o, by rw [List.getElem?_append_left hlt]; exact hi, hf⟩)
    · rw [List.getElem?_append_right (by omega)] at hi
      cases hc : i - os.length with
      | zero =>
        rw [hc] at hi; simp at hi; subst hi
        rcases h3 with e | e
        · exact .inr (.inr ⟨os.length, p, by simp, e ▸ hf⟩)
        · simp only at hf; rw [e] at hf; cases hf; omega
      | succ q => rw [hc] at hi; simp at hi
theorem BOk.lt (h : BOk M NT w vo vd os ds) {b : Nat} (hb : Foot vo vd os b) : b < w.heap.size := by
  rcases hb with hb | hb | ⟨i, o, hi, hb⟩
  · exact (h.o.lt b hb).2
  · obtain ⟨zs, hd, _⟩ := h.d
    exact (hd.lt b hb).2
  · obtain ⟨ys, hk, _⟩ := h.k i o hi
    exact (hk.lt b hb).2
theorem BOk.one (h : BOk M NT w vo vd os ds) {i : Nat} {o : OpD} (hi : os[i]? = some o) : o.v.oneCell' = true := by
  obtain ⟨ys, hk, _⟩ := h.k i o hi
  rcases hk.2 with ⟨e, _⟩ | ⟨_, _, _, e, _⟩ <;> rw [e] <;> rfl
theorem BOk.next {M' : Nat → Prop} (h : BOk M NT w vo vd os ds) (hA : Agree M w w') (hM : ∀ b, b < w.heap.size → M' b → M b) : BOk M' NT w' vo vd os ds := by
  have hs : ∀ {v : Value}, (∀ b, v.ownBlock = some b → Foot vo vd os b) → ∀ b, v.ownBlock = some b → w'.heap[b]? = w.heap[b]? := fun hv b hb => hA.block b (h.lt (hv b hb)) (h.m b (hv b hb))
  have hA' : Agree (fun b => M b ∨ Foot vo vd os b) w w' := ⟨hA.size, fun b hb hn => hA.block b hb fun hm => hn (.inl hm)⟩
  have hM2 : ∀ b, b < w.heap.size → (M' b ∨ Foot vo vd os b) → (M b ∨ Foot vo vd os b) := fun b hb hm => hm.imp (hM b hb) id
  refine ⟨ownsRow_same h.o (hs fun b hb => .inl hb), fun i o hi => ?_, ?_, h.od, h.ok, h.kk, fun b hb hm => h.m b hb (hM b (h.lt hb) hm)⟩
  · obtain ⟨ys, h1, h2⟩ := h.k i o hi
    exact ⟨ys, ownsRow_same h1 (hs fun b hb => .inr (.inr ⟨i, o, hi, hb⟩)), h2.next hA' hM2⟩
  · obtain ⟨zs, h1, h2⟩ := h.d
    exact ⟨zs, ownsRow_same h1 (hs fun b hb => .inr (.inl hb)), h2.next hA' hM2⟩
def Out (M : Nat → Prop) (x : Nat → Prop) (w w' : World) : Prop := w.heap.size ≤ w'.heap.size ∧ ∀ b, b < w.heap.size → ¬ M b → ¬ x b → w'.heap[b]? = w.heap[b]?
theorem BOk.nil (M : Nat → Prop) (NT : TypeId) (w : World) : BOk M NT w (.slice none 0 0) (.slice none 0 0) [] [] := by
  refine ⟨World.ownsRow_nil _ _ _ _, fun i o hi => (by simp at hi), ⟨[], World.ownsRow_nil _ _ _ _, RepRow.nil _ _ _⟩, fun b hb => (by cases hb), fun b i o hi => (by simp at hi), fun b i j o p hi => (by simp at hi), fun b hb => ?_⟩
  rcases hb with hb | hb | ⟨i, o, hi, _⟩
  · cases hb
  · cases hb
  · simp at hi
theorem BOk.push {v' : Value} {zs cs : List Value} {n : NodeD} (h : BOk M NT w vo vd os ds) (hMs : ∀ b, M b → b < w.heap.size) (hzr : RepRow (fun b => M b ∨ Foot vo vd os b) w nodeT (ds.map NodeD.un) zs)
    (hn : Rep (fun b => M b ∨ Foot vo vd os b) w nodeT n.un cs) (h1 : w'.ownsRow 0 NT 7 v' (ds.length + 1) (zs ++ cs)) (h2 : Out M (fun b => vd.ownBlock = some b) w w') (h3 : v'.ownBlock = vd.ownBlock ∨ v'.ownBlock = some w.heap.size) :
    BOk M NT w' vo v' os (ds ++ [n]) := by
  have hF : ∀ b, b < w.heap.size → Foot vo v' os b → Foot vo vd os b := by
    rintro b hb (hf | hf | hf)
    · exact .inl hf
    · rcases h3 with e | e
      · exact .inr (.inl (e ▸ hf))
      · rw [e] at hf; cases hf; omega
    · exact .inr (.inr hf)
  have hA : Agree (fun b => M b ∨ Foot vo vd os b) w w' := ⟨h2.1, fun b hb hn => h2.2 b hb (fun e => hn (.inl e)) fun e => hn (.inr (.inr (.inl e)))⟩
  have hM2 : ∀ b, b < w.heap.size → (M b ∨ Foot vo v' os b) → (M b ∨ Foot vo vd os b) := fun b hb hm => hm.imp id (hF b hb)
  have hsame : ∀ {v : Value}, (∀ b, v.ownBlock = some b → Foot vo vd os b ∧ vd.ownBlock ≠ some b) → ∀ b, v.ownBlock = some b → w'.heap[b]? = w.heap[b]? := fun hv b hb => h2.2 b (h.lt (hv b hb).1) (h.m b (hv b hb).1) (hv b hb).2
  refine ⟨ownsRow_same h.o (hsame fun b hb => ⟨.inl hb, h.od b hb⟩), fun i o hi => ?_, ⟨zs ++ cs, by simpa using h1, ?_⟩, fun b hb e => ?_, fun b i o hi hb => ⟨(h.ok b i o hi hb).1, fun e => ?_⟩, h.kk, fun b hb hm => ?_⟩
  · obtain ⟨ys, k1, k2⟩ := h.k i o hi
    exact ⟨ys, ownsRow_same k1 (hsame fun b hb => ⟨.inr (.inr ⟨i, o, hi, hb⟩), (h.ok b i o hi hb).2⟩), k2.next hA hM2⟩
  · rw [List.map_append]
    exact (hzr.append (RepRow.one hn)).next hA hM2
  · rcases h3 with e2 | e2
    · exact h.od b hb (e2 ▸ e)
    · rw [e2] at e; cases e; exact absurd (h.lt (.inl hb)) (Nat.lt_irrefl _)
  · rcases h3 with e2 | e2
    · exact (h.ok b i o hi hb).2 (e2 ▸ e)
    · rw [e2] at e; cases e; exact absurd (h.lt (.inr (.inr ⟨i, o, hi, hb⟩))) (Nat.lt_irrefl _)
  · have hlt := hMs b hm
    exact h.m b (hF b hlt hb) hm
theorem BOk.opened {v' : Value} {t : TokD} (h : BOk M NT w vo vd os ds) (hMs : ∀ b, M b → b < w.heap.size)
    (h1 : w'.ownsRow 0 NT 7 v' (os.length + 1) (opsC os ++ (tokC t ++ [.slice none 0 0]))) (h2 : Out M (fun b => vo.ownBlock = some b) w w') (h3 : v'.ownBlock = vo.ownBlock ∨ v'.ownBlock = some w.heap.size) :
    BOk M NT w' v' vd (os ++ [⟨t, .slice none 0 0, []⟩]) ds := by
  have hget : ∀ {i : Nat} {o : OpD}, (os ++ [(⟨t, .slice none 0 0, []⟩ : OpD)])[i]? = some o → os[i]? = some o ∨ o = ⟨t, .slice none 0 0, []⟩ := by
    intro i o hi
    by_cases hlt : i < os.length
    · rw [List.getElem?_append_left hlt] at hi; exact .inl hi
    · rw [List.getElem?_append_right (by omega)] at hi
      cases hc : i - os.length with
      | zero => rw [hc] at hi; simp at hi; exact .inr hi.symm
      | succ q => rw [hc] at hi; simp at hi
  have hF : ∀ b, b < w.heap.size → Foot v' vd (os ++ [⟨t, .slice none 0 0, []⟩]) b → Foot vo vd os b := by
    rintro b hb (hf | hf | ⟨i, o, hi, hf⟩)
    · rcases h3 with e | e
      · exact .inl (e ▸ hf)
      · rw [e] at hf; cases hf; omega
    · exact .inr (.inl hf)
    · rcases hget hi with hi | rfl
      · exact .inr (.inr ⟨i, o, hi, hf⟩)
      · cases hf
  have hA : Agree (fun b => M b ∨ Foot vo vd os b) w w' := ⟨h2.1, fun b hb hn => h2.2 b hb (fun e => hn (.inl e)) fun e => hn (.inr (.inl e))⟩
  have hM2 : ∀ b, b < w.heap.size → (M b ∨ Foot v' vd (os ++ [⟨t, .slice none 0 0, []⟩]) b) → (M b ∨ Foot vo vd os b) := fun b hb hm => hm.imp id (hF b hb)
  have hsame : ∀ {v : Value}, (∀ b, v.ownBlock = some b → Foot vo vd os b ∧ vo.ownBlock ≠ some b) → ∀ b, v.ownBlock = some b → w'.heap[b]? = w.heap[b]? := fun hv b hb => h2.2 b (h.lt (hv b hb).1) (h.m b (hv b hb).1) (hv b hb).2
  refine ⟨?_, fun i o hi => ?_, ?_, fun b hb e => ?_, fun b i o hi hb => ?_, fun b i j o p hi hj hb hp => ?_, fun b hb hm => ?_⟩
  · rw [opsC_app, opsC_one, List.length_append]
    exact h1
  · rcases hget hi with hi | rfl
    · obtain ⟨ys, k1, k2⟩ := h.k i o hi
      exact ⟨ys, ownsRow_same k1 (hsame fun b hb => ⟨.inr (.inr ⟨i, o, hi, hb⟩), (h.ok b i o hi hb).1⟩), k2.next hA hM2⟩
    · exact ⟨[], World.ownsRow_nil _ _ _ _, RepRow.nil _ _ _⟩
  · obtain ⟨zs, k1, k2⟩ := h.d
    exact ⟨zs, ownsRow_same k1 (hsame fun b hb => ⟨.inr (.inl hb), fun e => h.od b e hb⟩), k2.next hA hM2⟩
  · rcases h3 with e2 | e2
    · exact h.od b (e2 ▸ hb) e
    · rw [e2] at hb; cases hb; exact absurd (h.lt (.inr (.inl e))) (Nat.lt_irrefl _)
  · rcases hget hi with hi | rfl
    · refine ⟨fun e => ?_, (h.ok b i o hi hb).2⟩
      rcases h3 with e2 | e2
      · exact (h.ok b i o hi hb).1 (e2 ▸ e)
      · rw [e2] at e; cases e; exact absurd (h.lt (.inr (.inr ⟨i, o, hi, hb⟩))) (Nat.lt_irrefl _)
    · cases hb
  · rcases hget hi with hi | rfl
    · rcases hget hj with hj | rfl
      · exact h.kk b i j o p hi hj hb hp
      · cases hp
    · cases hb
  · exact h.m b (hF b (hMs b hm) hb) hm
theorem snoc_get {os : List OpD} {p o : OpD} {i : Nat} (h : (os ++ [p])[i]? = some o) : os[i]? = some o ∨ (i = os.length ∧ o = p) := by
  by_cases hlt : i < os.length
  · rw [List.getElem?_append_left hlt] at h; exact .inl h
  · rw [List.getElem?_append_right (by omega)] at h
    cases hc : i - os.length with
    | zero => rw [hc] at h; simp at h; exact .inr ⟨by omega, h.symm⟩
    | succ q => rw [hc] at h; simp at h
theorem snoc_last {os : List OpD} {p : OpD} : (os ++ [p])[os.length]? = some p := by simp
theorem snoc_left {os : List OpD} {p o : OpD} {i : Nat} (h : os[i]? = some o) : (os ++ [p])[i]? = some o := by
  rw [List.getElem?_append_left (List.getElem?_eq_some_iff.1 h).1]; exact h
theorem BOk.pop {A : Option Addr} {n c : Nat} {p : OpD} (h : BOk M NT w (.slice A n c) vd (os ++ [p]) ds) (t : TokD) :
    BOk M NT w (.slice A os.length c) vd os ds ∧ Rep (fun b => M b ∨ Foot (.slice A os.length c) vd os b) w nodeT (t, p.k) (tokC t ++ [p.v]) := by
  have hF : ∀ b, Foot (.slice A os.length c) vd os b → Foot (.slice A n c) vd (os ++ [p]) b := by
    rintro b (hf | hf | ⟨i, o, hi, hf⟩)
    · refine .inl ?_
      cases A <;> exact hf
    · exact .inr (.inl hf)
    · exact .inr (.inr ⟨i, o, snoc_left hi, hf⟩)
  have hM2 : ∀ b, b < w.heap.size → (M b ∨ Foot (.slice A os.length c) vd os b) → (M b ∨ Foot (.slice A n c) vd (os ++ [p]) b) := fun b _ hm => hm.imp id (hF b)
  have hown : ∀ {b : Nat}, (Value.slice A os.length c).ownBlock = some b → (Value.slice A n c).ownBlock = some b := fun hb => by cases A <;> exact hb
  refine ⟨⟨?_, fun i o hi => ?_, ?_, fun b hb => h.od b (hown hb), fun b i o hi hb => ⟨fun e => (h.ok b i o (snoc_left hi) hb).1 (hown e), (h.ok b i o (snoc_left hi) hb).2⟩, fun b i j o q hi hj => h.kk b i j o q (snoc_left hi) (snoc_left hj), fun b hb => h.m b (hF b hb)⟩, ?_⟩
  · have ho := h.o
    rw [opsC_app, opsC_one, List.length_append] at ho
    refine ⟨by rw [opsC_len], ?_⟩
    rcases ho.2 with ⟨_, h0⟩ | ⟨g, cap, cur, hv, hb, hg, hc, hm, hsz, hcur⟩
    · simp at h0
    · cases hv
      refine .inr ⟨g, c, cur, rfl, hb, hg, by simp at hc; omega, hm, hsz, ?_⟩
      have e1 : cur.toList.take (os.length * 7) = (cur.toList.take ((os.length + [p].length) * 7)).take (os.length * 7) := by rw [List.take_take, Nat.min_eq_left (by simp; omega)]
      rw [e1, hcur, List.take_append_of_le_length (by rw [opsC_len]; exact Nat.le_refl _), List.take_of_length_le (by rw [opsC_len]; exact Nat.le_refl _)]
  · obtain ⟨ys, k1, k2⟩ := h.k i o (snoc_left hi)
    exact ⟨ys, k1, k2.next (Agree.refl _ _) hM2⟩
  · obtain ⟨zs, k1, k2⟩ := h.d
    exact ⟨zs, k1, k2.next (Agree.refl _ _) hM2⟩
  · obtain ⟨ys, k1, k2⟩ := h.k os.length p snoc_last
    have hl : p.k.length = (p.k.map NodeD.un).length := by simp
    rw [hl] at k1
    have hr := RepRow.list (M0 := fun b => M b ∨ Foot (.slice A os.length c) vd os b) k1 (k2.next (Agree.refl _ _) hM2) (fun b hb hm => by
      rcases hm with hm | hm | hm | ⟨i, o, hi, hm⟩
      · exact h.m b (.inr (.inr ⟨_, p, snoc_last, hb⟩)) hm
      · exact (h.ok b os.length p snoc_last hb).1 (hown hm)
      · exact (h.ok b os.length p snoc_last hb).2 hm
      · have := h.kk b i os.length o p (snoc_left hi) snoc_last hm hb
        have := (List.getElem?_eq_some_iff.1 hi).1
        omega)
    have := list_repK hr
    have e : (p.k.map NodeD.un).map NodeD.fold = p.k := by
      rw [List.map_map]
      conv => rhs; rw [← List.map_id p.k]
      exact List.map_congr_left fun x _ => NodeD.fold_un x
    rw [e] at this
    exact ⟨_, _, rfl, (rep_tok _ _).2 rfl, this⟩
theorem BOk.grow {v' : Value} {g : Nat} {ys cs : List Value} {p : OpD} {n : NodeD} (h : BOk M NT w vo vd (os ++ [p]) ds) (hMs : ∀ b, M b → b < w.heap.size) (hzr : RepRow (fun b => M b ∨ Foot vo vd (os ++ [p]) b) w nodeT (p.k.map NodeD.un) ys)
    (hn : Rep (fun b => M b ∨ Foot vo vd (os ++ [p]) b) w nodeT n.un cs) (h1 : w'.ownsRow 0 NT 7 v' (p.k.length + 1) (ys ++ cs)) (h2 : Out M (fun b => p.v.ownBlock = some b ∨ vo.ownBlock = some b) w w') (h3 : v'.ownBlock = p.v.ownBlock ∨ v'.ownBlock = some w.heap.size)
    (hg : vo.ownBlock = some g) (h4 : w'.ownsRow 0 NT 7 vo (os.length + 1) ((opsC os ++ tokC p.t) ++ [v'])) :
    BOk M NT w' vo vd (os ++ [⟨p.t, v', p.k ++ [n]⟩]) ds := by
  have hpF : ∀ b, p.v.ownBlock = some b → Foot vo vd (os ++ [p]) b := fun b hb => .inr (.inr ⟨_, p, snoc_last, hb⟩)
  have hF : ∀ b, b < w.heap.size → Foot vo vd (os ++ [⟨p.t, v', p.k ++ [n]⟩]) b → Foot vo vd (os ++ [p]) b := by
    rintro b hb (hf | hf | ⟨i, o, hi, hf⟩)
    · exact .inl hf
    · exact .inr (.inl hf)
    · rcases snoc_get hi with hi | ⟨_, rfl⟩
      · exact .inr (.inr ⟨i, o, snoc_left hi, hf⟩)
      · rcases h3 with e | e
        · exact hpF b (e ▸ hf)
        · simp only at hf; rw [e] at hf; cases hf; omega
  have hA : Agree (fun b => M b ∨ Foot vo vd (os ++ [p]) b) w w' := ⟨h2.1, fun b hb hn => h2.2 b hb (fun e => hn (.inl e)) fun e => e.elim (fun e => hn (.inr (hpF b e))) fun e => hn (.inr (.inl e))⟩
  have hM2 : ∀ b, b < w.heap.size → (M b ∨ Foot vo vd (os ++ [⟨p.t, v', p.k ++ [n]⟩]) b) → (M b ∨ Foot vo vd (os ++ [p]) b) := fun b hb hm => hm.imp id (hF b hb)
  have hsame : ∀ {v : Value}, (∀ b, v.ownBlock = some b → Foot vo vd (os ++ [p]) b ∧ p.v.ownBlock ≠ some b ∧ b ≠ g) → ∀ b, v.ownBlock = some b → w'.heap[b]? = w.heap[b]? := fun hv b hb => h2.2 b (h.lt (hv b hb).1) (h.m b (hv b hb).1) (fun e => e.elim (hv b hb).2.1 fun e => (hv b hb).2.2 (by rw [hg] at e; cases e; rfl))
  have hvg : ∀ b, v'.ownBlock = some b → b ≠ g := by
    rintro b hb rfl
    rcases h3 with e | e
    · exact (h.ok b os.length p snoc_last (e ▸ hb)).1 hg
    · rw [e] at hb; cases hb; exact absurd (h.lt (.inl hg)) (Nat.lt_irrefl _)
  have hold : ∀ {i : Nat} {o : OpD} {b : Nat}, os[i]? = some o → o.v.ownBlock = some b → Foot vo vd (os ++ [p]) b ∧ p.v.ownBlock ≠ some b ∧ b ≠ g := fun {i o b} hi hb => ⟨.inr (.inr ⟨i, o, snoc_left hi, hb⟩), fun e => by
      have := h.kk b i os.length o p (snoc_left hi) snoc_last hb e
      have := (List.getElem?_eq_some_iff.1 hi).1
      omega, fun e => (h.ok b i o (snoc_left hi) hb).1 (e ▸ hg)⟩
  have hnew : ∀ {b : Nat}, v'.ownBlock = some b → ∀ {i : Nat} {o : OpD}, os[i]? = some o → o.v.ownBlock ≠ some b := fun {b} hb {i o} hi e => by
    rcases h3 with e2 | e2
    · exact (hold hi e).2.1 (e2 ▸ hb)
    · rw [e2] at hb; cases hb; exact absurd (h.lt (hold hi e).1) (Nat.lt_irrefl _)
  refine ⟨?_, fun i o hi => ?_, ?_, h.od, fun b i o hi hb => ?_, fun b i j o q hi hj hb hq => ?_, fun b hb hm => h.m b (hF b (hMs b hm) hb) hm⟩
  · rw [opsC_app, opsC_one, List.length_append]
    simpa [opC] using h4
  · rcases snoc_get hi with hi | ⟨_, rfl⟩
    · obtain ⟨zs, k1, k2⟩ := h.k i o (snoc_left hi)
      exact ⟨zs, ownsRow_same k1 (hsame fun b hb => hold hi hb), k2.next hA hM2⟩
    · refine ⟨ys ++ cs, ?_, ?_⟩
      · simp only [List.length_append, List.length_cons, List.length_nil, Nat.zero_add]
        exact h1
      · simp only [List.map_append, List.map_cons, List.map_nil]
        exact (hzr.append (RepRow.one hn)).next hA hM2
  · obtain ⟨zs, k1, k2⟩ := h.d
    exact ⟨zs, ownsRow_same k1 (hsame fun b hb => ⟨.inr (.inl hb), fun e => (h.ok b os.length p snoc_last e).2 hb, fun e => h.od b (e ▸ hg) hb⟩), k2.next hA hM2⟩
  · rcases snoc_get hi with hi | ⟨_, rfl⟩
    · exact h.ok b i o (snoc_left hi) hb
    · refine ⟨fun e => hvg b hb (by rw [hg] at e; cases e; rfl), fun e => ?_⟩
      rcases h3 with e2 | e2
      · exact (h.ok b os.length p snoc_last (e2 ▸ hb)).2 e
      · simp only at hb; rw [e2] at hb; cases hb; exact absurd (h.lt (.inr (.inl e))) (Nat.lt_irrefl _)
  · rcases snoc_get hi with hi | ⟨e1, rfl⟩
    · rcases snoc_get hj with hj | ⟨_, rfl⟩
      · exact h.kk b i j o q (snoc_left hi) (snoc_left hj) hb hq
      · exact absurd hb (hnew hq hi)
    · rcases snoc_get hj with hj | ⟨e2, rfl⟩
      · exact absurd hq (hnew hb hj)
      · omega
def OwnL (M : Nat → Prop) (NT : TypeId) (w : World) (v : Value) (l : List NodeD) : Prop := ∃ zs, w.ownsRow 0 NT 7 v l.length zs ∧ RepRow (fun b => M b ∨ v.ownBlock = some b) w nodeT (l.map NodeD.un) zs ∧ ∀ b, v.ownBlock = some b → ¬ M b
theorem OwnL.next {M' : Nat → Prop} {v : Value} {l : List NodeD} (h : OwnL M NT w v l) (hA : Agree M w w') (hM : ∀ b, b < w.heap.size → M' b → M b) : OwnL M' NT w' v l := by
  obtain ⟨zs, h1, h2, h3⟩ := h
  exact ⟨zs, ownsRow_same h1 fun b hb => hA.block b (h1.lt b hb).2 (h3 b hb), h2.next ⟨hA.size, fun b hb hm => hA.block b hb fun e => hm (.inl e)⟩ fun b hb hm => hm.imp (hM b hb) id, fun b hb hm => h3 b hb (hM b (h1.lt b hb).2 hm)⟩
theorem OwnL.rep {v : Value} {l : List NodeD} (h : OwnL M NT w v l) : Rep M w (.list nodeT) (l.map NodeD.un) [v] := by
  obtain ⟨zs, h1, h2, h3⟩ := h
  exact RepRow.list (by rw [List.length_map]; exact h1) (h2.next (Agree.refl _ _) fun b _ hm => .inl hm) h3
theorem BOk.drain (h : BOk M NT w vo vd os ds) : BOk (fun b => M b ∨ vd.ownBlock = some b) NT w vo (.slice none 0 0) os [] ∧ OwnL (fun b => M b ∨ Foot vo (.slice none 0 0) os b) NT w vd ds ∧ ∀ b, Foot vo (.slice none 0 0) os b → Foot vo vd os b := by
  have hF : ∀ b, Foot vo (.slice none 0 0) os b → Foot vo vd os b := by
    rintro b (e | e | e)
    · exact .inl e
    · cases e
    · exact .inr (.inr e)
  have hM2 : ∀ b, b < w.heap.size → ((M b ∨ vd.ownBlock = some b) ∨ Foot vo (.slice none 0 0) os b) → (M b ∨ Foot vo vd os b) := fun b _ hm => hm.elim (fun hm => hm.imp id fun e => .inr (.inl e)) fun e => .inr (hF b e)
  have hne : ∀ b, Foot vo (.slice none 0 0) os b → vd.ownBlock ≠ some b := by
    rintro b (hm | hm | ⟨i, o, hi, hm⟩) hb
    · exact h.od b hm hb
    · cases hm
    · exact (h.ok b i o hi hm).2 hb
  refine ⟨⟨h.o, fun i o hi => ?_, ⟨[], World.ownsRow_nil _ _ _ _, RepRow.nil _ _ _⟩, fun b _ e => (by cases e), fun b i o hi hb => ⟨(h.ok b i o hi hb).1, fun e => by cases e⟩, h.kk, fun b hb hm => hm.elim (h.m b (hF b hb)) (hne b hb)⟩, ?_, hF⟩
  · obtain ⟨ys, k1, k2⟩ := h.k i o hi
    exact ⟨ys, k1, k2.next (Agree.refl _ _) hM2⟩
  · obtain ⟨zs, k1, k2⟩ := h.d
    refine ⟨zs, k1, k2.next (Agree.refl _ _) fun b hb hm => hM2 b hb ?_, fun b hb hm => ?_⟩
    · rcases hm with (hm | hm) | hm
      · exact .inl (.inl hm)
      · exact .inr hm
      · exact .inl (.inr hm)
    · rcases hm with hm | hm
      · exact h.m b (.inr (.inl hb)) hm
      · exact hne b hm hb
end Go.FK


/- Statements whose order is open, by hand: phases of operations that look at memory alone (or make what no other looks at), taken one after another. -/
namespace Go.FK
open Go.RowKit
variable {P : Program}
def look : List (Nat × Value) → Nat → Value
  | [], _ => undef
  | (t, v) :: l, u => bif Nat.beq t u then v else look l u
def hasK : List (Nat × Value) → Nat → Bool
  | [], _ => false
  | (t, _) :: l, u => Nat.beq t u || hasK l u
theorem look_app {l : List (Nat × Value)} {t : Nat} : ∀ {nl : List (Nat × Value)}, look (nl ++ l) t = bif hasK nl t then look nl t else look l t
  | [] => rfl
  | (u, v) :: nl => by
    have ih := look_app (l := l) (t := t) (nl := nl)
    simp only [List.cons_append, look, hasK]
    cases hb : Nat.beq u t
    · simp only [cond_false, Bool.false_or]; exact ih
    · simp
theorem hasK_app {l : List (Nat × Value)} {t : Nat} : ∀ {nl : List (Nat × Value)}, hasK (nl ++ l) t = (hasK nl t || hasK l t)
  | [] => by simp [hasK]
  | (u, v) :: nl => by simp only [List.cons_append, hasK, hasK_app (nl := nl), Bool.or_assoc]
def evL (l : List (Nat × Value)) : Operand → Value
  | .tmp t => look l t
  | .const v => v
  | .global g => .pointer (some ⟨g, 0, none⟩)
  | .func f => .func (.func f) #[] #[]
def Fr (df : List Deferred) (n : Nat) (l : List (Nat × Value)) (a : Act) : Prop := a.defers = df ∧ a.tmps.size = n ∧ ∀ t, hasK l t = true → a.tmps.getD t undef = look l t
theorem Fr.get {df : List Deferred} {n : Nat} {l : List (Nat × Value)} {a : Act} (h : Fr df n l a) {t : Nat} (ht : hasK l t = true) : a.eval (.tmp t) = look l t := h.2.2 t ht
theorem Fr.sub {df : List Deferred} {n : Nat} {l l' : List (Nat × Value)} {a : Act} (h : Fr df n l a) (hs : ∀ t, hasK l' t = true → hasK l t = true ∧ look l' t = look l t) : Fr df n l' a := ⟨h.1, h.2.1, fun t ht => (h.2.2 t (hs t ht).1).trans (hs t ht).2.symm⟩
def DrawnS (P : Program) (ops : List Oper) (Q : Exit → Act → World → Prop) (S : Nat → Bool) (a : Act) (w : World) : Prop :=
  ∀ (L : Array Bool) (fuel : Nat), L.size = ops.length → (∀ i, Sl L i = S i) → unl S ops.length ≤ fuel → wpAny P .any ops.toArray Q fuel L a w
def plainB (ops : List Oper) : Bool := let n := ops.length
  allBelow (fun j => match ops[j]? with
    | none => false
    | some o => (match o.guard with | none => true | some _ => false) && (match o.op with | .defer _ => false | .select _ _ => false | _ => true) && o.after.toList.all fun e => !Region.binds .any e || Nat.blt e.on j) n
structure PlainO (ops : List Oper) : Prop where
  g : ∀ (j : Nat) o, ops[j]? = some o → o.guard = none
  d : ∀ (j : Nat) o, ops[j]? = some o → ∀ c, o.op ≠ .defer c
  s : ∀ (j : Nat) o, ops[j]? = some o → ∀ cs b, o.op ≠ .select cs b
  back : ∀ (j : Nat) o, ops[j]? = some o → ∀ e ∈ o.after.toList, Region.binds .any e = true → e.on < j
theorem plainB_ok {ops : List Oper} (h : plainB ops = true) : PlainO ops := by
  have key : ∀ (j : Nat) o, ops[j]? = some o → (match o.guard with | none => true | some _ => false) = true ∧ (match o.op with | .defer _ => false | .select _ _ => false | _ => true) = true ∧ (o.after.toList.all fun e => !Region.binds .any e || Nat.blt e.on j) = true := by
    intro j o ho
    have := allBelow_spec h j (List.getElem?_eq_some_iff.1 ho).1
    rw [ho] at this
    simp only [Bool.and_eq_true] at this
    exact ⟨this.1.1, this.1.2, this.2⟩
  refine ⟨fun j o ho => ?_, fun j o ho c e => ?_, fun j o ho cs b e => ?_, fun j o ho e he hb => ?_⟩
  · have := (key j o ho).1
    cases hg : o.guard with
    | none => rfl
    | some g => rw [hg] at this; cases this
  · have := (key j o ho).2.1
    rw [e] at this; cases this
  · have := (key j o ho).2.1
    rw [e] at this; cases this
  · have := List.all_eq_true.1 (key j o ho).2.2 e he
    rw [hb] at this
    simpa using this
theorem DrawnS.step {ops : List Oper} {Q : Exit → Act → World → Prop} {S : Nat → Bool} {a : Act} {w : World} (hp : PlainO ops) (h0 : (∀ i, i < ops.length → S i = true) → Q .normal a w)
    (h1 : ∀ j o, ops[j]? = some o → S j = false → (∀ e ∈ o.after.toList, Region.binds .any e = true → S e.on = true) → o.wp P a w (fun a' w' => DrawnS P ops Q (fun i => i == j || S i) a' w') Q) : DrawnS P ops Q S a w := by
  intro L fuel hsz hL hf
  have hS : Sl L = S := funext hL
  subst hS
  have hnil : Region.ready .any ops.toArray L = [] → ∀ i, i < ops.length → Sl L i = true := by
    intro he i hi
    cases hs : Sl L i with
    | true => rfl
    | false =>
      exfalso
      obtain ⟨k, e1, e2, e3⟩ := exists_least ops.length i hi hs
      have hk : k < ops.length := by omega
      obtain ⟨o, ho⟩ : ∃ o, ops[k]? = some o := ⟨ops[k], by simp [hk]⟩
      have := ready_of hsz ho e2 fun e he hb => e3 _ (hp.back k o ho e he hb)
      rw [he] at this
      cases this
  cases fuel with
  | zero =>
    have hz := unl_zero (Nat.le_zero.1 hf)
    refine ⟨?_, h0 hz⟩
    cases hr : Region.ready .any ops.toArray L with
    | nil => rfl
    | cons j r =>
      exfalso
      obtain ⟨q1, q2, _⟩ := Sl_ready hsz (j := j) (by rw [hr]; exact List.mem_cons_self ..)
      rw [hz j q1] at q2; cases q2
  | succ fuel =>
    refine ⟨fun he => h0 (hnil he), fun j hj => ?_⟩
    obtain ⟨q1, q2, o, ho, q3⟩ := Sl_ready hsz hj
    unfold wpOp
    rw [show ops.toArray[j]? = some o by simpa using ho]
    show if Region.wanted o (yielded ops.toArray a.tmps) = true then _ else _
    rw [if_pos (by unfold Region.wanted; rw [hp.g j o ho])]
    refine .inl (Oper.wp_mono (fun a' w' h => ?_) (h1 j o ho q2 q3))
    refine h _ fuel (by simp [hsz]) (fun i => congrFun (Sl_set (by omega)) i) ?_
    have := unl_set (S := Sl L) (n := ops.length) q1 q2
    omega
theorem DrawnS.done {ops : List Oper} {Q : Exit → Act → World → Prop} {a : Act} {w : World} (hp : PlainO ops) (h : Q .normal a w) : DrawnS P ops Q (fun i => decide (i < ops.length)) a w :=
  .step hp (fun _ => h) fun j o ho hs _ => by
    have := (List.getElem?_eq_some_iff.1 ho).1
    simp [this] at hs
def OpRuns (P : Program) (ρ : Operand → Value) (nl : List (Nat × Value)) (o : Oper) (w : World) (Z : World → Prop) : Prop :=
  ∃ v w', ((execOp ρ o).run P w = .ok (.value v) w' ∨ ((execOp ρ o).run P w = .ok .skip w' ∧ v = undef)) ∧ (∀ d, o.dst = some d → hasK nl d = true → v = look nl d) ∧ Z w'
def phaseB (draw : Bool) (n p q : Nat) (ops : List Oper) (l nl : List (Nat × Value)) : Bool :=
  let b := befores ops []
  let m := ops.length
  Nat.ble p q && Nat.ble q m &&
  allBelow (fun j => match ops[j]? with
    | none => false
    | some o => if j < p then true else if j < q then
        (o.op.operands.toList.all fun x => match x with
          | .tmp t => hasK (nl ++ l) t && allBelow (fun i => if i < p then true else match ops[i]? with
            | none => false
            | some o' => (match o'.dst with | some d => !Nat.beq d t | none => true) || (nthD 0 b j).testBit i) q
          | _ => true) && (match o.dst with
          | some d => Nat.blt d n && (hasK nl d || !hasK l d)
          | none => true)
      else !draw || allBelow (fun i => if i < p then true else (nthD 0 b j).testBit i) q) m &&
  nl.all fun x => !allBelow (fun i => if i < p then true else match ops[i]? with
    | none => true
    | some o => match o.dst with
      | some d => !Nat.beq d x.1
      | none => true) q
def FrS (df : List Deferred) (n p q : Nat) (ops : List Oper) (l : List (Nat × Value)) (S : Nat → Bool) (a : Act) : Prop :=
  a.defers = df ∧ a.tmps.size = n ∧ ∀ t, hasK l t = true → (∀ i o, p ≤ i → i < q → ops[i]? = some o → o.dst = some t → S i = true) → a.tmps.getD t undef = look l t
theorem allBelow_not {f : Nat → Bool} : ∀ {n : Nat}, allBelow f n = false → ∃ i, i < n ∧ f i = false
  | 0, h => by simp [allBelow] at h
  | n + 1, h => by
    simp only [allBelow, Bool.and_eq_false_iff] at h
    rcases h with h | h
    · exact ⟨n, Nat.lt_succ_self n, h⟩
    · obtain ⟨i, h1, h2⟩ := allBelow_not h
      exact ⟨i, by omega, h2⟩
theorem hasK_mem {nl : List (Nat × Value)} {t : Nat} (h : hasK nl t = true) : ∃ v, (t, v) ∈ nl := by
  induction nl with
  | nil => cases h
  | cons x nl ih =>
    obtain ⟨u, v⟩ := x
    simp only [hasK, Bool.or_eq_true] at h
    rcases h with h | h
    · exact ⟨v, by rw [Nat.eq_of_beq_eq_true h]; exact List.mem_cons_self ..⟩
    · obtain ⟨v', h'⟩ := ih h
      exact ⟨v', List.mem_cons_of_mem _ h'⟩
theorem drawn_phase {df : List Deferred} {n p q : Nat} {ops : List Oper} {l nl : List (Nat × Value)} {Q : Exit → Act → World → Prop} {a : Act} {w : World} (hp : PlainO ops) (hB : phaseB true n p q ops l nl = true) (W : (Nat → Bool) → World → Prop) (hfr : Fr df n l a) (hW0 : W (fun i => decide (i < p)) w)
    (hstep : ∀ j o S w, p ≤ j → j < q → ops[j]? = some o → S j = false → (∀ i, (nthD 0 (befores ops []) j).testBit i = true → S i = true) → W S w → OpRuns P (evL (nl ++ l)) nl o w fun w' => W (fun i => i == j || S i) w')
    (hQ : ∀ a' w', Fr df n (nl ++ l) a' → W (fun i => decide (i < q)) w' → DrawnS P ops Q (fun i => decide (i < q)) a' w') : DrawnS P ops Q (fun i => decide (i < p)) a w := by
  unfold phaseB at hB
  simp only [Bool.and_eq_true, Nat.ble_eq, Bool.not_true, Bool.false_or] at hB
  obtain ⟨⟨⟨hpq, hqm⟩, hops⟩, hnl⟩ := hB
  have hop := fun j (hj : j < ops.length) => allBelow_spec hops j hj
  have hwr : ∀ t, hasK nl t = true → ∃ (i : Nat) (o : Oper), p ≤ i ∧ i < q ∧ ops[i]? = some o ∧ o.dst = some t := by
    intro t ht
    obtain ⟨v, hv⟩ := hasK_mem ht
    have := List.all_eq_true.1 hnl (t, v) hv
    simp only [Bool.not_eq_true'] at this
    obtain ⟨i, h1, h2⟩ := allBelow_not this
    split at h2
    · cases h2
    · rename_i hip
      split at h2
      · cases h2
      · rename_i o ho
        split at h2
        · rename_i d hd
          simp only [Bool.not_eq_false'] at h2
          exact ⟨i, o, by omega, h1, ho, by rw [hd, Nat.eq_of_beq_eq_true h2]⟩
        · cases h2
  have key : ∀ (m : Nat) (S : Nat → Bool) (a : Act) (w : World), unl S q = m → (∀ i, i < p → S i = true) → (∀ i, q ≤ i → S i = false) → (∀ i, S i = true → ∀ k, (nthD 0 (befores ops []) i).testBit k = true → S k = true) → FrS df n p q ops (nl ++ l) S a → W S w → DrawnS P ops Q S a w := by
    intro m
    induction m with
    | zero =>
      intro S a w hm h1 h2 _ hF hW
      have hS : S = fun i => decide (i < q) := by
        funext i
        by_cases hi : i < q
        · rw [unl_zero hm i hi]; simp [hi]
        · rw [h2 i (by omega)]; simp [hi]
      subst hS
      refine hQ a w ⟨hF.1, hF.2.1, fun t ht => hF.2.2 t ht fun i o _ hi _ _ => by simp [hi]⟩ hW
    | succ m ih =>
      intro S a w hm h1 h2 hcl hF hW
      refine .step hp (fun hall => ?_) fun j o ho hsj hpre => ?_
      · exfalso
        have : unl S q = 0 := by
          have : unl S q = unl (fun _ => true) q := unl_congr fun i hi => hall i (by omega)
          rw [this]
          have hz : ∀ k, unl (fun _ => true) k = 0 := by
            intro k
            induction k with
            | zero => rfl
            | succ k ih => simp [unl, ih]
          exact hz q
        omega
      · have hjl := (List.getElem?_eq_some_iff.1 ho).1
        have hjp : p ≤ j := by
          rcases Nat.lt_or_ge j p with h | h
          · rw [h1 j h] at hsj; cases hsj
          · exact h
        have hbef : ∀ i, (nthD 0 (befores ops []) j).testBit i = true → S i = true := by
          intro i hi
          obtain ⟨e, e1, e2, e3⟩ := before_bit ho hi
          rcases e3 with e3 | e3
          · rw [e3]; exact hpre e e1 e2
          · exact hcl _ (hpre e e1 e2) i e3
        have hj := hop j hjl
        rw [ho] at hj
        simp only [if_neg (show ¬ j < p by omega)] at hj
        by_cases hjq : j < q
        · simp only [if_pos hjq, Bool.and_eq_true] at hj
          obtain ⟨hj1, hj2⟩ := hj
          have hcongr : execOp a.eval o = execOp (evL (nl ++ l)) o := by
            refine execOp_congr o (hp.s j o ho) fun x hx => ?_
            cases x with
            | tmp t =>
              have := List.all_eq_true.1 hj1 (.tmp t) (by simpa using hx)
              simp only [Bool.and_eq_true] at this
              refine hF.2.2 t this.1 fun i o' hi1 hi2 ho' hd => ?_
              have h3 := allBelow_spec this.2 i hi2
              simp only [if_neg (show ¬ i < p by omega), ho', hd, Bool.or_eq_true, Bool.not_eq_true'] at h3
              rcases h3 with h3 | h3
              · rw [Nat.beq_refl] at h3; cases h3
              · exact hbef i h3
            | const v => rfl
            | global g => rfl
            | func f => rfl
          obtain ⟨v, w', hrun, hval, hZ⟩ := hstep j o S w hjp hjq ho hsj hbef hW
          have hnext : DrawnS P ops Q (fun i => i == j || S i) (a.put o.dst v) w' := by
            refine ih _ _ _ ?_ (fun i hi => by simp [h1 i hi]) (fun i hi => by simp [h2 i hi]; omega) (fun i hi k hk => ?_) ⟨?_, ?_, fun t ht hall => ?_⟩ hZ
            · have := unl_set (S := S) (n := q) hjq hsj
              omega
            · simp only [Bool.or_eq_true, beq_iff_eq] at hi ⊢
              rcases hi with rfl | hi
              · exact .inr (hbef k hk)
              · exact .inr (hcl i hi k hk)
            · cases o.dst <;> exact hF.1
            · rw [put_size]; exact hF.2.1
            · by_cases hd : o.dst = some t
              · have hlt : t < n := by
                  rw [hd] at hj2
                  simp only [Bool.and_eq_true] at hj2
                  simpa using hj2.1
                have hk : hasK nl t = true := by
                  rw [hd] at hj2
                  simp only [Bool.and_eq_true, Bool.or_eq_true, Bool.not_eq_true'] at hj2
                  rcases hj2.2 with h | h
                  · exact h
                  · rw [hasK_app, h, Bool.or_false] at ht; exact ht
                rw [hd, put_get (by rw [hF.2.1]; exact hlt), hval t hd hk, look_app, hk, cond_true]
              · rw [put_oth hd]
                refine hF.2.2 t ht fun i o' hi1 hi2 ho' hd' => ?_
                have := hall i o' hi1 hi2 ho' hd'
                simp only [Bool.or_eq_true, beq_iff_eq] at this
                rcases this with rfl | h
                · rw [ho] at ho'; cases ho'; exact absurd hd' hd
                · exact h
          unfold Oper.wp
          rw [hcongr]
          rcases hrun with hrun | ⟨hrun, rfl⟩
          · rw [hrun]; exact hnext
          · rw [hrun]; exact hnext
        · exfalso
          simp only [if_neg hjq] at hj
          have : unl S q = 0 := by
            have : unl S q = unl (fun _ => true) q := unl_congr fun i hi => by
              rcases Nat.lt_or_ge i p with h | h
              · exact h1 i h
              · have := allBelow_spec hj i hi
                rw [if_neg (by omega)] at this
                exact hbef i this
            rw [this]
            have hz : ∀ k, unl (fun _ => true) k = 0 := by
              intro k
              induction k with
              | zero => rfl
              | succ k ih => simp [unl, ih]
            exact hz q
          omega
  have hcl0 : ∀ i, decide (i < p) = true → ∀ k, (nthD 0 (befores ops []) i).testBit k = true → decide (k < p) = true := by
    have hlt : ∀ n i q, i < n → (nthD 0 (befores ops []) i).testBit q = true → q < i := by
      intro n
      induction n with
      | zero => intro i q hi; omega
      | succ n ihn =>
        intro i q hi hq
        have hil : i < ops.length := by
          rcases Nat.lt_or_ge i ops.length with h' | h'
          · exact h'
          · rw [nthD_eq, List.getD_eq_getElem?_getD, List.getElem?_eq_none (by rw [befores_length]; exact h')] at hq
            simp at hq
        obtain ⟨o, ho⟩ : ∃ o, ops[i]? = some o := ⟨ops[i], by simp [hil]⟩
        obtain ⟨e, h5, h6, h7⟩ := before_bit ho hq
        have hb := hp.back i o ho e h5 h6
        rcases h7 with h7 | h7
        · omega
        · have := ihn e.on q (by omega) h7
          omega
    intro i hi k hk
    have := hlt (i + 1) i k (Nat.lt_succ_self i) hk
    simp only [decide_eq_true_eq] at hi ⊢
    omega
  refine key (unl (fun i => decide (i < p)) q) _ a w rfl (fun i hi => by simp [hi]) (fun i hi => by simp; omega) hcl0 ⟨hfr.1, hfr.2.1, fun t ht hall => ?_⟩ hW0
  have hno : hasK nl t = false := by
    cases hk : hasK nl t with
    | false => rfl
    | true =>
      obtain ⟨i, o, h1, h2, h3, h4⟩ := hwr t hk
      have := hall i o h1 h2 h3 h4
      simp only [decide_eq_true_eq] at this
      omega
  rw [hasK_app, hno, Bool.false_or] at ht
  rw [look_app, hno, cond_false]
  exact hfr.2.2 t ht
def soloB (p : Nat) (ops : List Oper) : Bool := let b := befores ops []
  Nat.blt p ops.length && allBelow (fun j => if j ≤ p then true else (nthD 0 b j).testBit p) ops.length
theorem drawn_op {p : Nat} {ops : List Oper} {Q : Exit → Act → World → Prop} {a : Act} {w : World} {o : Oper} (hp : PlainO ops) (hB : soloB p ops = true) (ho : ops[p]? = some o)
    (h : o.wp P a w (fun a' w' => DrawnS P ops Q (fun i => decide (i < p + 1)) a' w') Q) : DrawnS P ops Q (fun i => decide (i < p)) a w := by
  unfold soloB at hB
  simp only [Bool.and_eq_true] at hB
  refine .step hp (fun hall => ?_) fun j o' ho' hsj hpre => ?_
  · have := hall p (by simpa using hB.1)
    simp at this
  · have hjl := (List.getElem?_eq_some_iff.1 ho').1
    have hjp : p ≤ j := by simpa using hsj
    have hj : j = p := by
      rcases Nat.lt_or_ge p j with hlt | hge
      · exfalso
        have h1 := allBelow_spec hB.2 j hjl
        rw [if_neg (by omega)] at h1
        have hlt' : ∀ m i, i ≤ m → p < i → (nthD 0 (befores ops []) i).testBit p = true → ∀ oi, ops[i]? = some oi → (∀ e ∈ oi.after.toList, Region.binds .any e = true → decide (e.on < p) = true) → False := by
          intro m i _ hpi hbit oi hoi hpr
          obtain ⟨e, e1, e2, e3⟩ := before_bit hoi hbit
          have h5 := hpr e e1 e2
          simp only [decide_eq_true_eq] at h5
          rcases e3 with e3 | e3
          · omega
          · have hlt2 : ∀ n i q, i < n → (nthD 0 (befores ops []) i).testBit q = true → q < i := by
              intro n
              induction n with
              | zero => intro i q hi; omega
              | succ n ihn =>
                intro i q hi hq
                have hil : i < ops.length := by
                  rcases Nat.lt_or_ge i ops.length with h' | h'
                  · exact h'
                  · rw [nthD_eq, List.getD_eq_getElem?_getD, List.getElem?_eq_none (by rw [befores_length]; exact h')] at hq
                    simp at hq
                obtain ⟨o, ho⟩ : ∃ o, ops[i]? = some o := ⟨ops[i], by simp [hil]⟩
                obtain ⟨e, h5, h6, h7⟩ := before_bit ho hq
                have hb := hp.back i o ho e h5 h6
                rcases h7 with h7 | h7
                · omega
                · have := ihn e.on q (by omega) h7
                  omega
            have := hlt2 _ e.on p (Nat.lt_succ_self _) e3
            omega
        exact hlt' j j (Nat.le_refl _) hlt h1 o' ho' hpre
      · omega
    subst hj
    rw [ho] at ho'
    cases ho'
    refine Oper.wp_mono (fun a' w' h => ?_) h
    have e : (fun i => i == j || decide (i < j)) = fun i => decide (i < j + 1) := by
      funext i
      by_cases h1 : i = j
      · subst h1; simp
      · have h2 : (i == j) = false := beq_eq_false_iff_ne.2 h1
        rw [h2, Bool.false_or]
        congr 1
        exact propext ⟨fun h => by omega, fun h => by omega⟩
    rw [e]
    exact h
theorem region_drawn {id : Nat} {ops : Array Oper} {Q : Exit → Act → World → Prop} {a : Act} {w : World} (hmix : P.follows .mixedOrders = true) (h : DrawnS P ops.toList Q (fun i => decide (i < 0)) a w.drew) : (Code.region id ops true).wp P Q a w := by
  refine wp_region_any hmix ?_
  have := h (Array.replicate ops.size false) ops.size (by simp) (fun i => by simp only [Sl, Array.getD_eq_getD_getElem?, Array.getElem?_replicate]; split <;> simp) ?_
  · have e : ops.toList.toArray = ops := by simp
    rw [e] at this
    exact this
  · have hz : ∀ k, unl (fun i => decide (i < 0)) k ≤ k := by
      intro k
      induction k with
      | zero => exact Nat.le_refl _
      | succ k ih =>
        unfold unl
        split <;> omega
    have := hz ops.toList.length
    simpa using this
end Go.FK


/- Operations run by hand over told temporaries, and statements (drawn or not) taken by phases. -/
namespace Go.FK
open Go.RowKit
variable {P : Program} {ρ : Operand → Value} {o : Oper} {w w' : World}
def Ru (P : Program) (ρ : Operand → Value) (o : Oper) (w : World) (v : Value) (w' : World) : Prop := (execOp ρ o).run P w = .ok (.value v) w'
theorem ru_move {x : Operand} {v : Value} (ho : o.op = .move x) (hv : ρ x = v) : Ru P ρ o w v w := by simp [Ru, execOp, ho, hv]
theorem ru_assign {x : Operand} {v : Value} (ho : o.op = .assign x) (hv : ρ x = v) : Ru P ρ o w v w := by simp [Ru, execOp, ho, hv]
theorem ru_nil {x : Operand} {a : Addr} (ho : o.op = .nilCheck x) (hx : ρ x = .pointer (some a)) : Ru P ρ o w (.pointer (some a)) w := by simp [Ru, execOp, ho, hx]
def fldB (P : Program) (T : TypeId) (j : Nat) : Option Nat := match P.underlying T with
  | some (.struct fs) => match fs[j]? with
    | some f => match P.info? f.type with
      | some i => bif Nat.beq i.size 0 then none else some f.offset
      | none => none
    | none => none
  | _ => none
theorem ru_field {T : TypeId} {x : Operand} {j d g k : Nat} (ho : o.op = .fieldAddr T x j) (ht : fldB P T j = some d) (hx : ρ x = .pointer (some ⟨g, k, none⟩)) : Ru P ρ o w (.pointer (some ⟨g, k + d, none⟩)) w := by
  unfold fldB at ht
  split at ht
  · rename_i fs hu
    split at ht
    · rename_i f hf
      split at ht
      · rename_i i hi
        cases hb : Nat.beq i.size 0 <;> rw [hb] at ht
        · simp only [cond_false, Option.some.injEq] at ht
          subst ht
          have hs : i.size ≠ 0 := fun e => by rw [e] at hb; cases hb
          simp [Ru, execOp, ho, hx, Instr.fieldAt, run_underlying hu, hf, Instr.sureAddr, fieldPlace, run_sizeOf hi, hs, add_lit]
        · cases ht
      · cases ht
    · cases ht
  · cases ht
def At (w : World) (g k : Nat) (cs : List Value) : Prop := ∀ j v, cs[j]? = some v → w.cell? ⟨g, k + j, none⟩ = some v
theorem At.of_heap {g k : Nat} {cs : List Value} (h : At w g k cs) (hh : w'.heap[g]? = w.heap[g]?) : At w' g k cs := fun j v hj => (World.cell?_of_block (a := ⟨g, k + j, none⟩) hh).trans (h j v hj)
theorem At.lt {g k : Nat} {cs : List Value} (h : At w g k cs) (h0 : 0 < cs.length) : g < w.heap.size := World.block_lt_of_cell? w _ (h 0 cs[0] (List.getElem?_eq_getElem h0))
theorem At.row {e : TypeId} {sz n c g k : Nat} {A : Option Addr} {xs cs : List Value} (h : w.ownsRow 0 e sz (.slice A n c) n xs) (hA : A = some ⟨g, 0, none⟩) (hc : seg xs k cs.length = cs) : At w g k cs := by
  subst hA
  intro j v hj
  have hlt := (List.getElem?_eq_some_iff.1 hj).1
  have h1 : xs[k + j]? = some v := by
    rw [← hc, seg_getElem, if_pos hlt] at hj
    exact hj
  have := h.cells (g := g) rfl (k + j) v h1
  rwa [add_lit, Nat.zero_add] at this
theorem ru_load {T : TypeId} {ti : TI} {x : Operand} {g k : Nat} {cs : List Value} (ho : o.op = .load T x) (ht : TyOk P T ti) (hl : cs.length = ti.t.sz) (hx : ρ x = .pointer (some ⟨g, k, none⟩)) (hc : At w g k cs) : Ru P ρ o w (ofCells ti.t cs) w := by
  have := run_loadVar_len (P := P) (w := w) ht hl ⟨g, k, none⟩ fun j v hj => by rw [add_lit]; exact hc j v hj
  simp [Ru, execOp, ho, Instr.loadAt, hx, Instr.sureAddr, this]
def ptrB (P : Program) (T : TypeId) : Bool := match P.underlying T with
  | some (.pointer _) => true
  | _ => false
theorem ru_loadP {T : TypeId} {x : Operand} {g k : Nat} {v : Value} (ho : o.op = .load T x) (ht : ptrB P T = true) (hx : ρ x = .pointer (some ⟨g, k, none⟩)) (hc : At w g k [v]) : Ru P ρ o w v w := by
  unfold ptrB at ht
  split at ht
  · rename_i e hu
    have h1 : w.cell? ⟨g, k, none⟩ = some v := by simpa using hc 0 v rfl
    have h2 : (isAgg T).run P w = .ok false w := by rw [run_isAgg hu]; simp [aggB, hu]
    simp [Ru, execOp, ho, Instr.loadAt, hx, Instr.sureAddr, loadVar, h2, h1]
  · cases ht
theorem ru_len {x : Operand} {T e : TypeId} {A : Option Addr} {n c : Nat} (ho : o.op = .call ⟨.builtin .len, #[x], #[T]⟩) (ht : P.underlying T = some (.slice e)) (hx : ρ x = .slice A n c) : Ru P ρ o w (.int .i64 (n : Int)) w := by
  have : (Builtin.len_ #[T] o.type #[ρ x]).run P w = .ok (.int .i64 (n : Int)) w := by rw [hx]; simp [Builtin.len_, run_underlying ht]; rfl
  simp [Ru, execOp, ho, resolve, invoke, builtin, this]
theorem ru_int {op : BinOp} {T p : TypeId} {x y : Operand} {k : IntKind} {a b : Int} {v : Value} (ho : o.op = .binOp op T x y p) (hx : ρ x = .int k a) (hy : ρ y = .int k b) (hr : (binOp op T (.int k a) (.int k b)).run P w = .ok v w) : Ru P ρ o w v w := by
  unfold Ru execOp
  rw [ho]
  simp only [hx, hy]
  have := run_eqGuard_plain (P := P) op T x y (.int k a) (.int k b) w (fun u v => by simp)
  simp [this, hr]
theorem ru_bin {op : BinOp} {T p : TypeId} {x y : Operand} {a b v : Value} (ho : o.op = .binOp op T x y p) (hx : ρ x = a) (hy : ρ y = b) (hr : (do eqGuard op T x y a b; binOp op T a b : Sem Value).run P w = .ok v w) : Ru P ρ o w v w := by
  unfold Ru execOp
  rw [ho]
  simp only [hx, hy]
  rw [Sem.run_bind, hr]
  rfl
def ifcB (P : Program) (T : TypeId) : Bool := match P.underlying T with
  | some (.interface _) => true
  | _ => false
theorem ifcB_ok {P : Program} {T : TypeId} (h : ifcB P T = true) : ∃ ms, P.underlying T = some (.interface ms) := by
  unfold ifcB at h
  split at h
  · exact ⟨_, by assumption⟩
  · cases h
theorem run_iface_nil {T : TypeId} (hu : ∃ ms, P.underlying T = some (.interface ms)) (x y : Operand) (t : TypeId) (v : Value) (w : World) : (do eqGuard .eql T x y (.iface t v) .nilIface; binOp .eql T (.iface t v) .nilIface).run P w = .ok (.bool false) w := by
  obtain ⟨ms, hu⟩ := hu
  rw [Sem.run_bind, run_eqGuard_plain _ _ _ _ _ _ _ (by simp)]
  show (do pure (.bool (← Op.equal T (.iface t v) .nilIface)) : Sem Value).run P w = _
  have : (Op.equal T (.iface t v) .nilIface).run P w = .ok false w := by
    unfold Op.equal
    rw [show Op.maxDepth = 9999 + 1 from rfl, Op.equalIn]
    simp [Sem.run_bind, Sem.run, underlying, program, hu, Result.andThen]
  rw [Sem.run_bind, this]
  rfl
theorem ru_assert {T xT : TypeId} {x : Operand} {v : Value} (ho : o.op = .typeAssert x xT T true) (ht : ∃ fs, P.underlying T = some (.struct fs)) (hx : ρ x = .iface T v) : Ru P ρ o w (.tuple #[v, .bool true]) w := by
  obtain ⟨fs, ht⟩ := ht
  simp [Ru, execOp, ho, Instr.typeAssert, run_underlying ht, hx]
theorem ru_extract {x : Operand} {j : Nat} {l : Array Value} {v : Value} (ho : o.op = .extract x j) (hx : ρ x = .tuple l) (hv : l[j]? = some v) : Ru P ρ o w v w := by
  simp [Ru, execOp, ho, Instr.extract, hx, hv]
theorem ru_eq {T p : TypeId} {x y : Operand} {k : IntKind} {a b : Int} (ho : o.op = .binOp .eql T x y p) (hx : ρ x = .int k a) (hy : ρ y = .int k b) : Ru P ρ o w (.bool (decide (a = b))) w :=
  ru_int ho hx hy (by simp only [binOp, Op.intCmp, ne_eq, not_true_eq_false, if_false, Sem.run_pure]; rfl)
theorem ru_ne {T p : TypeId} {x y : Operand} {k : IntKind} {a b : Int} (ho : o.op = .binOp .neq T x y p) (hx : ρ x = .int k a) (hy : ρ y = .int k b) : Ru P ρ o w (.bool (!decide (a = b))) w :=
  ru_int ho hx hy (by simp only [binOp, Op.intCmp, ne_eq, not_true_eq_false, if_false, Sem.run_pure]; rfl)
theorem ru_lt {T p : TypeId} {x y : Operand} {k : IntKind} {a b : Int} (ho : o.op = .binOp .lss T x y p) (hx : ρ x = .int k a) (hy : ρ y = .int k b) : Ru P ρ o w (.bool (decide (a < b))) w :=
  ru_int ho hx hy (by simp only [binOp, Op.intCmp, ne_eq, not_true_eq_false, if_false, Sem.run_pure])
theorem ru_sub {T p : TypeId} {x y : Operand} {k : IntKind} {a b : Int} (ho : o.op = .binOp .sub T x y p) (hx : ρ x = .int k a) (hy : ρ y = .int k b) : Ru P ρ o w (.int k (k.wrap (a - b))) w :=
  ru_int ho hx hy (by simp [binOp, Op.intArith])
theorem ru_add {T p : TypeId} {x y : Operand} {k : IntKind} {a b : Int} (ho : o.op = .binOp .add T x y p) (hx : ρ x = .int k a) (hy : ρ y = .int k b) : Ru P ρ o w (.int k (k.wrap (a + b))) w :=
  ru_int ho hx hy (by simp [binOp, Op.intArith])
theorem ru_build {T : TypeId} {ps : Array (Nat × Operand)} {cs : Array Value} (ho : o.op = .build T ps) (h : P.built T (ps.map fun x => (x.1, ρ x.2)).toList = some cs) : Ru P ρ o w (.agg cs) w := by
  simp [Ru, execOp, ho, run_build w T _ cs h]
theorem ru_index {T e : TypeId} {x i : Operand} {g k n c sz : Nat} {z : Int} (ho : o.op = .indexAddr T x i) (ht : P.underlying T = some (.slice e)) (he : (P.info? e).map (·.size) = some sz) (hx : ρ x = .slice (some ⟨g, k, none⟩) n c) (hi : ρ i = .int .i64 z) (h0 : 0 ≤ z) (h1 : z < n) :
    Ru P ρ o w (.pointer (some ⟨g, k + z.toNat * sz, none⟩)) w := by
  cases hinf : P.info? e with
  | none => rw [hinf] at he; cases he
  | some inf =>
    rw [hinf] at he
    simp only [Option.map_some, Option.some.injEq] at he
    have h1' : (n : Int) > z := h1
    simp [Ru, execOp, ho, Instr.indexAt, asIntOf, run_underlying ht, hx, hi, h0, h1', run_sizeOf hinf, he, add_lit]
def AtA (w : World) (a : Addr) (cs : List Value) : Prop := ∀ j v, cs[j]? = some v → w.cell? (a.add j) = some v
theorem AtA.of_heap {a : Addr} {cs : List Value} (h : AtA w a cs) (hh : w'.heap[a.block]? = w.heap[a.block]?) : AtA w' a cs := fun j v hj => (World.cell?_of_block (by rw [block_add]; exact hh)).trans (h j v hj)
theorem ru_indexA {T e : TypeId} {x i : Operand} {a : Addr} {n c sz : Nat} {z : Int} (ho : o.op = .indexAddr T x i) (ht : P.underlying T = some (.slice e)) (he : (P.info? e).map (·.size) = some sz) (hx : ρ x = .slice (some a) n c) (hi : ρ i = .int .i64 z) (h0 : 0 ≤ z) (h1 : z < n) :
    Ru P ρ o w (.pointer (some (a.add (z.toNat * sz)))) w := by
  cases hinf : P.info? e with
  | none => rw [hinf] at he; cases he
  | some inf =>
    rw [hinf] at he
    simp only [Option.map_some, Option.some.injEq] at he
    have h1' : (n : Int) > z := h1
    simp [Ru, execOp, ho, Instr.indexAt, asIntOf, run_underlying ht, hx, hi, h0, h1', run_sizeOf hinf, he]
theorem ru_loadA {T : TypeId} {ti : TI} {x : Operand} {a : Addr} {cs : List Value} (ho : o.op = .load T x) (ht : TyOk P T ti) (hl : cs.length = ti.t.sz) (hx : ρ x = .pointer (some a)) (hc : AtA w a cs) : Ru P ρ o w (ofCells ti.t cs) w := by
  have := run_loadVar_len (P := P) (w := w) ht hl a hc
  simp [Ru, execOp, ho, Instr.loadAt, hx, Instr.sureAddr, this]
theorem ru_cut {T e : TypeId} {x i : Operand} {A : Option Addr} {n c : Nat} {z : Int} (ho : o.op = .slice T x none (some i) none) (ht : P.underlying T = some (.slice e)) (he : (P.info? e).isSome = true) (hx : ρ x = .slice A n c) (hi : ρ i = .int .i64 z) (h0 : 0 ≤ z) (h1 : z ≤ c) :
    Ru P ρ o w (.slice A z.toNat c) w := by
  obtain ⟨inf, hinf⟩ := Option.isSome_iff_exists.1 he
  have hz : A.map (fun a => a.add 0) = A := by cases A <;> simp [Addr.add]
  have hs := run_sliceBound_ok (P := P) .i64 z c .sliceAcap w h0 h1
  simp [Ru, execOp, ho, Instr.sliceAt, run_underlying ht, hx, hi, Instr.slice, Instr.sliceBounds, hs, run_sizeOf hinf, hz]
theorem ru_bslice {T e : TypeId} {x : Operand} {sz : Nat} {cs : Array Value} (ho : o.op = .buildSlice T 1 #[(0, x)]) (ht : P.underlying T = some (.slice e)) {z : Value} (he : (P.info? e).map (fun i => (i.size, i.zero)) = some (sz, some z)) (_hz : z.cells.size = sz) (hs : 0 < sz) (hb : sz ≤ 16777216) (hx : (ρ x).cells = cs) (hc : cs.size = sz) :
    Ru P ρ o w (.slice (some ⟨w.heap.size, 0, none⟩) 1 1) (w.alloc (.cells cs e)) := by
  cases hinf : P.info? e with
  | none => rw [hinf] at he; cases he
  | some inf =>
    rw [hinf] at he
    simp only [Option.map_some, Option.some.injEq, Prod.mk.injEq] at he
    have hn : (newRow e cs).run P w = .ok ⟨w.heap.size, 0, none⟩ (w.alloc (.cells cs e)) := by simp [newRow]
    have hfill : Instr.fill (fun i => some (i * sz, sz)) ((Array.range sz).map fun q => z.cells[q % z.cells.size]!) [(0, ρ x)] = some cs := by
      obtain ⟨cells', e1, e2⟩ := fill_step (fun i => some (i * sz, sz)) ((Array.range sz).map fun q => z.cells[q % z.cells.size]!) 0 (ρ x) [] (0 * sz) sz rfl (by rw [hx]; exact hc) (by simp)
      rw [e1]
      simp only [Instr.fill, Option.some.injEq]
      apply Array.ext'
      rw [e2, hx, Nat.zero_mul, splice_whole _ _ (by simp [hc])]
    have hrun : (Instr.buildSlice T 1 #[(0, ρ x)]).run P w = .ok (.slice (some ⟨w.heap.size, 0, none⟩) 1 1) (w.alloc (.cells cs e)) := by
      unfold Instr.buildSlice
      have hzv : (zeroValue e).run P w = .ok z w := by simp [zeroValue, typeInfo, hinf, he.2]
      simp only [Sem.run_bind, run_underlying ht, Result.andThen_ok, run_sizeOf hinf, he.1, Nat.one_mul]
      rw [if_neg (show ¬ (sz > 2 ^ 24) by omega)]
      simp only [show ¬ sz = 0 by omega, if_false, Sem.run_bind, hzv, Result.andThen_ok, Sem.run_pure]
      rw [hfill]
      simp only [Sem.run_bind, hn, Result.andThen_ok, Sem.run_pure]
    simp [Ru, execOp, ho, hrun]
theorem ru_alloc {T : TypeId} {ti : TI} (ho : o.op = .alloc T) (ht : TyOk P T ti) : Ru P ρ o w (.pointer (some ⟨w.heap.size, 0, none⟩)) (w.alloc (.cells ti.t.zcells.toArray T)) := by
  obtain ⟨inf, hinf, _, z, hz, hzc⟩ := ht.2.1
  obtain ⟨h1, _, _⟩ := newVar_at (P := P) (w := w) (fun _ => False) (T := T) (v := z) (by rw [← hzc]) (Rep.zcells (fun _ => False) w ti.t)
  simp [Ru, execOp, ho, Instr.alloc, zeroValue, typeInfo, hinf, hz, h1]
theorem ru_box {T : TypeId} {x : Operand} {cs : Array Value} (ho : o.op = .box T x) (hx : (ρ x).cells = cs) : Ru P ρ o w (.pointer (some ⟨w.heap.size, 0, none⟩)) (w.alloc (.cells cs T)) := by
  simp [Ru, execOp, ho, Instr.box, newVar, newRow, hx]
theorem rs_store {T : TypeId} {ad x : Operand} {g k e sz n c m : Nat} {xs vs : List Value} (ho : o.op = .store T ad x) (ht : (P.info? T).map (·.size) = some m) (had : ρ ad = .pointer (some ⟨g, k, none⟩)) (hx : (ρ x).cells = vs.toArray) (hm : vs.length = m) (h1 : ∀ u ∈ vs, u.oneCell' = true)
    (hrow : w.ownsRow 0 e sz (.slice (some ⟨g, 0, none⟩) n c) n xs) (hk : k + vs.length ≤ xs.length) :
    ∃ w', (execOp ρ o).run P w = .ok .skip w' ∧ w'.ownsRow 0 e sz (.slice (some ⟨g, 0, none⟩) n c) n (splice xs k vs) ∧ w.grownBy w' (some g) := by
  cases hinf : P.info? T with
  | none => rw [hinf] at ht; cases ht
  | some inf =>
    rw [hinf] at ht
    simp only [Option.map_some, Option.some.injEq] at ht
    obtain ⟨w', k1, k2, k3⟩ := own_splice (P := P) (b0 := fun _ => True) ⟨hrow, fun _ _ => trivial⟩ (g := g) rfl (o := k) (vs := vs) hk h1
    have : (storeVar T ⟨g, k, none⟩ (ρ x)).run P w = (storeCells ⟨g, k, none⟩ vs).run P w := by
      unfold storeVar
      simp [run_sizeOf hinf, hx, hm, ht]
    exact ⟨w', by simp [execOp, ho, Instr.storeAt, had, Instr.sureAddr, this, k1], k2.1, k3⟩
theorem ru_append {T e : TypeId} {s x : Operand} {i : TypeInfo} {z v : Value} {sz by' n g : Nat} {xs cs : List Value} (ho : o.op = .call ⟨.builtin .append, #[s, x], #[T, T]⟩) (ht : P.underlying T = some (.slice e)) (hi : P.info? e = some i) (hz : i.zero = some z) (h1 : i.size = sz) (h2 : i.bytes = by') (h3 : z.cells.size = sz) (h4 : 0 < sz)
    (hs : ρ s = v) (hx : ρ x = .slice (some ⟨g, 0, none⟩) 1 1) (hrow : w.ownsRow 0 e sz v n xs) (hcs : cs.length = sz) (hat : At w g 0 cs) (hone : ∀ u ∈ cs, u.oneCell' = true) (h63 : n + 1 ≤ maxLen) (hby : (n + 1) * by' ≤ 140737488355328) :
    ∃ v' w', Ru P ρ o w v' w' ∧ w'.ownsRow 0 e sz v' (n + 1) (xs ++ cs) ∧ w.grownBy w' v.ownBlock ∧ (v'.ownBlock = v.ownBlock ∨ v'.ownBlock = some w.heap.size) := by
  obtain ⟨v', w', k1, k2, k3, _, k5⟩ := run_append_own_at (P := P) w 0 T o.type e i z sz by' ht hi hz h1 h2 h3 h4 v n xs hrow ⟨g, 0, none⟩ 1 1 cs (by omega) (fun j u hj => by
    rw [add_lit]; exact hat j u hj) hone h63 hby (Nat.zero_le _)
  exact ⟨v', w', by simp [Ru, execOp, ho, resolve, invoke, builtin, hs, hx, k1], k2, k3, k5⟩
def Rest (P : Program) (draw : Bool) (ops : List Oper) (Q : Exit → Act → World → Prop) (p : Nat) (a : Act) (w : World) : Prop :=
  match draw with
  | true => DrawnS P ops Q (fun i => decide (i < p)) a w
  | false => wpList P ops.toArray Q (ops.drop p) a w
theorem region_rest {id : Nat} {ops : Array Oper} {draw : Bool} {Q : Exit → Act → World → Prop} {a : Act} {w : World} (hmix : P.follows .mixedOrders = true) (h : ∀ w1 : World, w1.heap = w.heap → Below w.heap.size w w1 → Rest P draw ops.toList Q 0 a w1) : (Code.region id ops draw).wp P Q a w := by
  cases draw with
  | true => exact region_drawn hmix (h w.drew rfl (Below.refl _ w).drew)
  | false =>
    refine wp_region_list ?_
    have := h w rfl (Below.refl _ w)
    simpa [Rest] using this
theorem rest_end {draw : Bool} {ops : List Oper} {Q : Exit → Act → World → Prop} {a : Act} {w : World} (hp : plainB ops = true) (h : Q .normal a w) : Rest P draw ops Q ops.length a w := by
  cases draw with
  | true => exact DrawnS.done (plainB_ok hp) h
  | false => simpa [Rest, wpList] using h
theorem list_cons {all : Array Oper} {Q : Exit → Act → World → Prop} {a : Act} {w : World} {rest : List Oper} (hg : o.guard = none) (h : o.wp P a w (fun a' w' => wpList P all Q rest a' w') Q) : wpList P all Q (o :: rest) a w := by
  unfold wpList
  rw [if_pos (by unfold Region.wanted; rw [hg])]
  exact .inl h
theorem rest_op {draw : Bool} {ops : List Oper} {Q : Exit → Act → World → Prop} {a : Act} {w : World} {p : Nat} (hp : plainB ops = true) (hB : (!draw || soloB p ops) = true) (ho : ops[p]? = some o) (h : o.wp P a w (fun a' w' => Rest P draw ops Q (p + 1) a' w') Q) : Rest P draw ops Q p a w := by
  cases draw with
  | true => exact drawn_op (plainB_ok hp) (by simpa using hB) ho h
  | false =>
    show wpList P ops.toArray Q (ops.drop p) a w
    obtain ⟨hlt, he⟩ := List.getElem?_eq_some_iff.1 ho
    rw [List.drop_eq_getElem_cons hlt, he]
    exact list_cons ((plainB_ok hp).g p o ho) h
inductive StepsN (F : Nat → Oper → Prop) (ops : List Oper) : Nat → Nat → Prop
  | z {p : Nat} : StepsN F ops p 0
  | s {p c : Nat} {o : Oper} (h : ops[p]? = some o) (hf : F p o) (t : StepsN F ops (p + 1) c) : StepsN F ops p (c + 1)
theorem steps_sub {F : Nat → Oper → Prop} {ops : List Oper} {p c q : Nat} (hq : p + c = q) (hs : StepsN F ops p c) : ∀ j o, p ≤ j → j < q → ops[j]? = some o → F j o := by
  subst hq
  induction hs with
  | z => intro j o h1 h2; omega
  | @s p0 c0 o0 h hf t ih =>
    intro j o h1 h2 ho
    by_cases e : j = p0
    · subst e
      rw [h] at ho; cases ho; exact hf
    · exact ih j o (by omega) (by omega) ho
theorem st_eq {A B : Prop} {j : Nat} (h : A) : if j = j then A else B := by rw [if_pos rfl]; exact h
theorem st_ne {A B : Prop} {i j : Nat} (hne : i ≠ j) (h : B) : if i = j then A else B := by rw [if_neg hne]; exact h
theorem At.rd {g k : Nat} {cs : List Value} (h : At w g k cs) (h0 : 0 < cs.length) (hw : ∀ b, b < w.heap.size → w'.heap[b]? = w.heap[b]?) : At w' g k cs := h.of_heap (hw _ (h.lt h0))
def Rd (P : Program) (ρ : Operand → Value) (nl : List (Nat × Value)) (w : World) (o : Oper) : Prop :=
  ∃ v, (∀ w1 : World, (∀ b, b < w.heap.size → w1.heap[b]? = w.heap[b]?) → Ru P ρ o w1 v w1) ∧ ∀ d, o.dst = some d → hasK nl d = true → v = look nl d
theorem rd_of {nl : List (Nat × Value)} {v : Value} {d : Nat} (hd : o.dst = some d) (hl : v = look nl d) (h : ∀ w1 : World, (∀ b, b < w.heap.size → w1.heap[b]? = w.heap[b]?) → Ru P ρ o w1 v w1) : Rd P ρ nl w o :=
  ⟨v, h, fun d' h1 _ => by rw [hd] at h1; cases h1; exact hl⟩
theorem list_phase {draw : Bool} {df : List Deferred} {n p q : Nat} {ops : List Oper} {l nl : List (Nat × Value)} {Q : Exit → Act → World → Prop} {a : Act} {w : World} (hp : PlainO ops) (hB : phaseB draw n p q ops l nl = true) (hfr : Fr df n l a) (W : Nat → World → Prop) (hW0 : W p w)
    (hstep : ∀ j o w, p ≤ j → j < q → ops[j]? = some o → W j w → OpRuns P (evL (nl ++ l)) nl o w (W (j + 1)))
    (hQ : ∀ a' w', Fr df n (nl ++ l) a' → W q w' → wpList P ops.toArray Q (ops.drop q) a' w') : wpList P ops.toArray Q (ops.drop p) a w := by
  have hB' := hB
  unfold phaseB at hB
  simp only [Bool.and_eq_true, Nat.ble_eq] at hB
  obtain ⟨⟨⟨hpq, hqm⟩, hops⟩, hnl⟩ := hB
  have hop := fun j (hj : j < ops.length) => allBelow_spec hops j hj
  have hwr : ∀ t, hasK nl t = true → ∃ (i : Nat) (o : Oper), p ≤ i ∧ i < q ∧ ops[i]? = some o ∧ o.dst = some t := by
    intro t ht
    obtain ⟨v, hv⟩ := hasK_mem ht
    have := List.all_eq_true.1 hnl (t, v) hv
    simp only [Bool.not_eq_true'] at this
    obtain ⟨i, h1, h2⟩ := allBelow_not this
    split at h2
    · cases h2
    · rename_i hip
      split at h2
      · cases h2
      · rename_i o ho
        split at h2
        · rename_i d hd
          simp only [Bool.not_eq_false'] at h2
          exact ⟨i, o, by omega, h1, ho, by rw [hd, Nat.eq_of_beq_eq_true h2]⟩
        · cases h2
  have hblt : ∀ n i q, i < n → (nthD 0 (befores ops []) i).testBit q = true → q < i := by
    intro n
    induction n with
    | zero => intro i q hi; omega
    | succ n ihn =>
      intro i q hi hq
      have hil : i < ops.length := by
        rcases Nat.lt_or_ge i ops.length with h' | h'
        · exact h'
        · rw [nthD_eq, List.getD_eq_getElem?_getD, List.getElem?_eq_none (by rw [befores_length]; exact h')] at hq
          simp at hq
      obtain ⟨o, ho⟩ : ∃ o, ops[i]? = some o := ⟨ops[i], by simp [hil]⟩
      obtain ⟨e, h5, h6, h7⟩ := before_bit ho hq
      have hb := hp.back i o ho e h5 h6
      rcases h7 with h7 | h7
      · omega
      · have := ihn e.on q (by omega) h7
        omega
  have key : ∀ (m j : Nat) (a : Act) (w : World), q - j = m → p ≤ j → j ≤ q → FrS df n p q ops (nl ++ l) (fun i => decide (i < j)) a → W j w → wpList P ops.toArray Q (ops.drop j) a w := by
    intro m
    induction m with
    | zero =>
      intro j a w hm h1 h2 hF hW
      obtain rfl : j = q := by omega
      exact hQ a w ⟨hF.1, hF.2.1, fun t ht => hF.2.2 t ht fun i o _ hi _ _ => by simp [hi]⟩ hW
    | succ m ih =>
      intro j a w hm h1 h2 hF hW
      have hjq : j < q := by omega
      have hjl : j < ops.length := by omega
      obtain ⟨o, ho⟩ : ∃ o, ops[j]? = some o := ⟨ops[j], by simp [hjl]⟩
      have hj := hop j hjl
      rw [ho] at hj
      simp only [if_neg (show ¬ j < p by omega), if_pos hjq, Bool.and_eq_true] at hj
      obtain ⟨hj1, hj2⟩ := hj
      have hcongr : execOp a.eval o = execOp (evL (nl ++ l)) o := by
        refine execOp_congr o (hp.s j o ho) fun x hx => ?_
        cases x with
        | tmp t =>
          have := List.all_eq_true.1 hj1 (.tmp t) (by simpa using hx)
          simp only [Bool.and_eq_true] at this
          refine hF.2.2 t this.1 fun i o' hi1 hi2 ho' hd => ?_
          have h3 := allBelow_spec this.2 i hi2
          simp only [if_neg (show ¬ i < p by omega), ho', hd, Bool.or_eq_true, Bool.not_eq_true'] at h3
          rcases h3 with h3 | h3
          · rw [Nat.beq_refl] at h3; cases h3
          · have := hblt _ j i (Nat.lt_succ_self _) h3
            simp only [decide_eq_true_eq]; omega
        | const v => rfl
        | global g => rfl
        | func f => rfl
      obtain ⟨v, w', hrun, hval, hZ⟩ := hstep j o w h1 hjq ho hW
      have hnext : wpList P ops.toArray Q (ops.drop (j + 1)) (a.put o.dst v) w' := by
        refine ih (j + 1) _ _ (by omega) (by omega) (by omega) ⟨?_, ?_, fun t ht hall => ?_⟩ hZ
        · cases o.dst <;> exact hF.1
        · rw [put_size]; exact hF.2.1
        · by_cases hd : o.dst = some t
          · have hlt : t < n := by
              rw [hd] at hj2
              simp only [Bool.and_eq_true] at hj2
              simpa using hj2.1
            have hk : hasK nl t = true := by
              rw [hd] at hj2
              simp only [Bool.and_eq_true, Bool.or_eq_true, Bool.not_eq_true'] at hj2
              rcases hj2.2 with h | h
              · exact h
              · rw [hasK_app, h, Bool.or_false] at ht; exact ht
            rw [hd, put_get (by rw [hF.2.1]; exact hlt), hval t hd hk, look_app, hk, cond_true]
          · rw [put_oth hd]
            refine hF.2.2 t ht fun i o' hi1 hi2 ho' hd' => ?_
            have := hall i o' hi1 hi2 ho' hd'
            simp only [decide_eq_true_eq] at this ⊢
            rcases Nat.lt_or_ge i j with h | h
            · exact h
            · obtain rfl : i = j := by omega
              rw [ho] at ho'; cases ho'; exact absurd hd' hd
      obtain ⟨hlt, he⟩ := List.getElem?_eq_some_iff.1 ho
      rw [List.drop_eq_getElem_cons hlt, he]
      refine list_cons (hp.g j o ho) ?_
      unfold Oper.wp
      rw [hcongr]
      rcases hrun with hrun | ⟨hrun, rfl⟩
      · rw [hrun]; exact hnext
      · rw [hrun]; exact hnext
  refine key (q - p) p a w rfl (Nat.le_refl _) hpq ⟨hfr.1, hfr.2.1, fun t ht hall => ?_⟩ hW0
  have hno : hasK nl t = false := by
    cases hk : hasK nl t with
    | false => rfl
    | true =>
      obtain ⟨i, o, h1, h2, h3, h4⟩ := hwr t hk
      have := hall i o h1 h2 h3 h4
      simp only [decide_eq_true_eq] at this
      omega
  rw [hasK_app, hno, Bool.false_or] at ht
  rw [look_app, hno, cond_false]
  exact hfr.2.2 t ht
theorem rest_reads {draw : Bool} {df : List Deferred} {n p q : Nat} {c : Nat} {ops : List Oper} {l nl : List (Nat × Value)} {Q : Exit → Act → World → Prop} {a : Act} {w : World} (hp : plainB ops = true) (hB : phaseB draw n p q ops l nl = true) (hfr : Fr df n l a) (hq : p + c = q)
    (hs : StepsN (fun _ o => Rd P (evL (nl ++ l)) nl w o) ops p c) (hQ : ∀ a', Fr df n (nl ++ l) a' → Rest P draw ops Q q a' w) : Rest P draw ops Q p a w := by
  have hst := steps_sub hq hs
  cases draw with
  | true =>
    refine drawn_phase (plainB_ok hp) hB (fun _ w' => w' = w) hfr rfl (fun j o S w1 h1 h2 ho _ _ hW => ?_) fun a' w' hf hW => by subst hW; exact hQ a' hf
    subst hW
    obtain ⟨v, k1, k2⟩ := hst j o h1 h2 ho
    exact ⟨v, w1, .inl (k1 w1 fun _ _ => rfl), k2, rfl⟩
  | false =>
    refine list_phase (plainB_ok hp) hB hfr (fun _ w' => w' = w) rfl (fun j o w1 h1 h2 ho hW => ?_) fun a' w' hf hW => by subst hW; exact hQ a' hf
    subst hW
    obtain ⟨v, k1, k2⟩ := hst j o h1 h2 ho
    exact ⟨v, w1, .inl (k1 w1 fun _ _ => rfl), k2, rfl⟩
theorem rest_new {draw : Bool} {df : List Deferred} {n p q j0 : Nat} {c : Nat} {ops : List Oper} {l nl : List (Nat × Value)} {Q : Exit → Act → World → Prop} {a : Act} {w : World} {ob : Obj} (hp : plainB ops = true) (hB : phaseB draw n p q ops l nl = true) (hj : p ≤ j0 ∧ j0 < q) (hfr : Fr df n l a) (hq : p + c = q)
    (hs : StepsN (fun j o => if j = j0 then ∃ v, Ru P (evL (nl ++ l)) o w v (w.alloc ob) ∧ ∀ d, o.dst = some d → hasK nl d = true → v = look nl d else Rd P (evL (nl ++ l)) nl w o) ops p c) (hQ : ∀ a', Fr df n (nl ++ l) a' → Rest P draw ops Q q a' (w.alloc ob)) : Rest P draw ops Q p a w := by
  have hst := steps_sub hq hs
  have hal : ∀ b, b < w.heap.size → (w.alloc ob).heap[b]? = w.heap[b]? := fun b hb => Below.heap_alloc w ob b hb
  cases draw with
  | true =>
    refine drawn_phase (plainB_ok hp) hB (fun S w' => w' = if S j0 = true then w.alloc ob else w) hfr (by simp; omega) (fun j o S w1 h1 h2 ho hsj _ hW => ?_) fun a' w' hf hW => ?_
    · have := hst j o h1 h2 ho
      by_cases e : j = j0
      · subst e
        rw [if_pos rfl] at this
        obtain ⟨v, k1, k2⟩ := this
        rw [hsj] at hW
        simp only [Bool.false_eq_true, if_false] at hW
        subst hW
        exact ⟨v, _, .inl k1, k2, by simp⟩
      · rw [if_neg e] at this
        obtain ⟨v, k1, k2⟩ := this
        have e' : (j0 == j) = false := beq_eq_false_iff_ne.2 fun h => e h.symm
        refine ⟨v, w1, .inl (k1 w1 fun b hb => ?_), k2, ?_⟩
        · rw [hW]; split
          · exact hal b hb
          · rfl
        · simp only [e', Bool.false_or]; exact hW
    · have : w' = w.alloc ob := by rw [hW]; simp [hj.2]
      subst this
      exact hQ a' hf
  | false =>
    refine list_phase (plainB_ok hp) hB hfr (fun j w' => w' = if j0 < j then w.alloc ob else w) (by rw [if_neg (by omega)]) (fun j o w1 h1 h2 ho hW => ?_) fun a' w' hf hW => ?_
    · have := hst j o h1 h2 ho
      by_cases e : j = j0
      · subst e
        rw [if_pos rfl] at this
        obtain ⟨v, k1, k2⟩ := this
        rw [if_neg (by omega)] at hW
        subst hW
        exact ⟨v, _, .inl k1, k2, by rw [if_pos (by omega)]⟩
      · rw [if_neg e] at this
        obtain ⟨v, k1, k2⟩ := this
        refine ⟨v, w1, .inl (k1 w1 fun b hb => ?_), k2, ?_⟩
        · rw [hW]; split
          · exact hal b hb
          · rfl
        · rw [hW]
          by_cases h : j0 < j
          · rw [if_pos h, if_pos (by omega)]
          · rw [if_neg h, if_neg (by omega)]
    · have : w' = w.alloc ob := by rw [hW, if_pos hj.2]
      subst this
      exact hQ a' hf
def RdA (P : Program) (ρ : Operand → Value) (nl : List (Nat × Value)) (o : Oper) : Prop :=
  ∃ v, (∀ w1 : World, Ru P ρ o w1 v w1) ∧ ∀ d, o.dst = some d → hasK nl d = true → v = look nl d
theorem ra_of {nl : List (Nat × Value)} {v : Value} {d : Nat} (hd : o.dst = some d) (hl : v = look nl d) (h : ∀ w1 : World, Ru P ρ o w1 v w1) : RdA P ρ nl o :=
  ⟨v, h, fun d' h1 _ => by rw [hd] at h1; cases h1; exact hl⟩
def StO (P : Program) (ρ : Operand → Value) (g : Nat) (R R' : World → Prop) (o : Oper) : Prop :=
  o.dst = none ∧ ∀ w1 : World, R w1 → ∃ w2, (execOp ρ o).run P w1 = .ok .skip w2 ∧ R' w2 ∧ w1.grownBy w2 (some g)
theorem Chg.grown {S : Nat → Prop} {w w1 w2 : World} {g : Nat} (h : Chg S w w1) (h2 : w1.grownBy w2 (some g)) (hg : S g) : Chg S w w2 :=
  ⟨h2.os.trans (Beyond.os h), h2.tape.trans (Beyond.tape h), h2.output.trans (Beyond.output h), Nat.le_trans (Beyond.size h) h2.size, fun k hk => by
    have hlt : k < w.heap.size := by
      rcases Nat.lt_or_ge k w.heap.size with h' | h'
      · exact h'
      · exact absurd (.inr h') hk
    exact (h2.block k (Nat.lt_of_lt_of_le hlt (Beyond.size h)) (fun e => hk (.inl (by cases e; exact hg)))).trans (Beyond.block h k hk)⟩
theorem Chg.below {S : Nat → Prop} {w w1 : World} (h : Below w.heap.size w w1) : Chg S w w1 := ⟨h.os, h.tape, h.output, h.size, fun k hk => h.block k (by
  rcases Nat.lt_or_ge k w.heap.size with h' | h'
  · exact h'
  · exact absurd (.inr h') hk)⟩
theorem Chg.grown' {w w1 : World} {row : Option Nat} (h : w.grownBy w1 row) : Chg (fun b => row = some b) w w1 := ⟨h.os, h.tape, h.output, h.size, fun k hk => h.block k (by
  rcases Nat.lt_or_ge k w.heap.size with h' | h'
  · exact h'
  · exact absurd (.inr h') hk) fun e => hk (.inl e.symm)⟩
theorem Chg.then {S S' : Nat → Prop} {w w1 w2 : World} (h : Chg S w w1) (h2 : Chg S' w1 w2) (hs : ∀ b, b < w.heap.size → S' b → S b) : Chg S w w2 :=
  ⟨(Beyond.os h2).trans (Beyond.os h), (Beyond.tape h2).trans (Beyond.tape h), (Beyond.output h2).trans (Beyond.output h), Nat.le_trans (Beyond.size h) (Beyond.size h2), fun k hk => by
    have hlt : k < w.heap.size := by
      rcases Nat.lt_or_ge k w.heap.size with h' | h'
      · exact h'
      · exact absurd (.inr h') hk
    exact (Chg.block h2 (Nat.lt_of_lt_of_le hlt (Beyond.size h)) fun e => hk (.inl (hs k hlt e))).trans (Chg.block h hlt fun e => hk (.inl e))⟩
theorem rest_stores {draw : Bool} {df : List Deferred} {n p q j1 j2 g1 g2 : Nat} {c : Nat} {ops : List Oper} {l nl : List (Nat × Value)} {Q : Exit → Act → World → Prop} {a : Act} {w : World} (R1 R1' R2 R2' : World → Prop) (hp : plainB ops = true) (hB : phaseB draw n p q ops l nl = true) (hj : (p ≤ j1 ∧ j1 < q) ∧ (p ≤ j2 ∧ j2 < q) ∧ j1 ≠ j2) (hfr : Fr df n l a) (hq : p + c = q)
    (h1 : R1 w) (h2 : R2 w) (k1 : ∀ w1 w2 : World, R1 w1 → w1.grownBy w2 (some g2) → R1 w2) (k1' : ∀ w1 w2 : World, R1' w1 → w1.grownBy w2 (some g2) → R1' w2) (k2 : ∀ w1 w2 : World, R2 w1 → w1.grownBy w2 (some g1) → R2 w2) (k2' : ∀ w1 w2 : World, R2' w1 → w1.grownBy w2 (some g1) → R2' w2)
    (hs : StepsN (fun j o => if j = j1 then StO P (evL (nl ++ l)) g1 R1 R1' o else if j = j2 then StO P (evL (nl ++ l)) g2 R2 R2' o else RdA P (evL (nl ++ l)) nl o) ops p c)
    (hQ : ∀ a' w', Fr df n (nl ++ l) a' → R1' w' → R2' w' → Chg (fun b => b = g1 ∨ b = g2) w w' → Rest P draw ops Q q a' w') : Rest P draw ops Q p a w := by
  have hst := steps_sub hq hs
  let W : (Nat → Bool) → World → Prop := fun S w' => (if S j1 = true then R1' w' else R1 w') ∧ (if S j2 = true then R2' w' else R2 w') ∧ Chg (fun b => b = g1 ∨ b = g2) w w'
  have step : ∀ j o (S : Nat → Bool) w1, p ≤ j → j < q → ops[j]? = some o → S j = false → W S w1 → OpRuns P (evL (nl ++ l)) nl o w1 fun w' => W (fun i => i == j || S i) w' := by
    intro j o S w1 hp1 hp2 ho hsj ⟨hW1, hW2, hW3⟩
    have := hst j o hp1 hp2 ho
    by_cases e1 : j = j1
    · subst e1
      rw [if_pos rfl] at this
      rw [hsj] at hW1
      obtain ⟨m1, m2⟩ := this
      obtain ⟨w2, m3, m4, m5⟩ := m2 w1 hW1
      refine ⟨undef, w2, .inr ⟨m3, rfl⟩, fun d hd => (by rw [m1] at hd; cases hd), by simpa using m4, ?_, hW3.grown m5 (.inl rfl)⟩
      have e' : (j2 == j) = false := beq_eq_false_iff_ne.2 fun h => hj.2.2 h.symm
      show if (j2 == j || S j2) = true then R2' w2 else R2 w2
      rw [e', Bool.false_or]
      split
      · rename_i h; rw [if_pos h] at hW2; exact k2' _ _ hW2 m5
      · rename_i h; rw [if_neg h] at hW2; exact k2 _ _ hW2 m5
    · rw [if_neg e1] at this
      have e1' : (j1 == j) = false := beq_eq_false_iff_ne.2 fun h => e1 h.symm
      by_cases e2 : j = j2
      · subst e2
        rw [if_pos rfl] at this
        rw [hsj] at hW2
        obtain ⟨m1, m2⟩ := this
        obtain ⟨w2, m3, m4, m5⟩ := m2 w1 hW2
        refine ⟨undef, w2, .inr ⟨m3, rfl⟩, fun d hd => (by rw [m1] at hd; cases hd), ?_, by simpa using m4, hW3.grown m5 (.inr rfl)⟩
        show if (j1 == j || S j1) = true then R1' w2 else R1 w2
        rw [e1', Bool.false_or]
        split
        · rename_i h; rw [if_pos h] at hW1; exact k1' _ _ hW1 m5
        · rename_i h; rw [if_neg h] at hW1; exact k1 _ _ hW1 m5
      · rw [if_neg e2] at this
        obtain ⟨v, m1, m2⟩ := this
        have e2' : (j2 == j) = false := beq_eq_false_iff_ne.2 fun h => e2 h.symm
        exact ⟨v, w1, .inl (m1 w1), m2, by simp only [e1', Bool.false_or]; exact hW1, by simp only [e2', Bool.false_or]; exact hW2, hW3⟩
  have h0 : W (fun i => decide (i < p)) w := ⟨by show (if decide (j1 < p) = true then R1' w else R1 w); rw [if_neg (by simp; omega)]; exact h1, by show (if decide (j2 < p) = true then R2' w else R2 w); rw [if_neg (by simp; omega)]; exact h2, Chg.refl _ _⟩
  have hend : ∀ a' w', Fr df n (nl ++ l) a' → W (fun i => decide (i < q)) w' → Rest P draw ops Q q a' w' := by
    intro a' w' hf ⟨hW1, hW2, hW3⟩
    have hW1 : if decide (j1 < q) = true then R1' w' else R1 w' := hW1
    have hW2 : if decide (j2 < q) = true then R2' w' else R2 w' := hW2
    rw [if_pos (decide_eq_true hj.1.2)] at hW1
    rw [if_pos (decide_eq_true hj.2.1.2)] at hW2
    exact hQ a' w' hf hW1 hW2 hW3
  cases draw with
  | true => exact drawn_phase (plainB_ok hp) hB W hfr h0 (fun j o S w1 a1 a2 ho hsj _ hW => step j o S w1 a1 a2 ho hsj hW) hend
  | false =>
    refine list_phase (plainB_ok hp) hB hfr (fun j => W fun i => decide (i < j)) h0 (fun j o w1 a1 a2 ho hW => ?_) hend
    obtain ⟨v, w2, b1, b2, b3⟩ := step j o (fun i => decide (i < j)) w1 a1 a2 ho (by simp) hW
    refine ⟨v, w2, b1, b2, ?_⟩
    have e : (fun i => i == j || decide (i < j)) = fun i => decide (i < j + 1) := by
      funext i
      by_cases h1 : i = j
      · subst h1; simp
      · have h2 : (i == j) = false := beq_eq_false_iff_ne.2 h1
        rw [h2, Bool.false_or]
        congr 1
        exact propext ⟨fun h => by omega, fun h => by omega⟩
    rw [← e]
    exact b3
def RdK (P : Program) (ρ : Operand → Value) (nl : List (Nat × Value)) (K : World → Prop) (o : Oper) : Prop :=
  ∃ v, (∀ w1 : World, K w1 → Ru P ρ o w1 v w1) ∧ ∀ d, o.dst = some d → hasK nl d = true → v = look nl d
theorem rk_of {nl : List (Nat × Value)} {K : World → Prop} {v : Value} {d : Nat} (hd : o.dst = some d) (hl : v = look nl d) (h : ∀ w1 : World, K w1 → Ru P ρ o w1 v w1) : RdK P ρ nl K o :=
  ⟨v, h, fun d' h1 _ => by rw [hd] at h1; cases h1; exact hl⟩
def StK (P : Program) (ρ : Operand → Value) (K : World → Prop) (o : Oper) : Prop :=
  o.dst = none ∧ ∀ w1 : World, K w1 → ∃ w2, (execOp ρ o).run P w1 = .ok .skip w2 ∧ K w2
theorem rest_inv {draw : Bool} {df : List Deferred} {n p q : Nat} {c : Nat} {ops : List Oper} {l nl : List (Nat × Value)} {Q : Exit → Act → World → Prop} {a : Act} {w : World} (K : World → Prop) (hp : plainB ops = true) (hB : phaseB draw n p q ops l nl = true) (hfr : Fr df n l a) (hq : p + c = q)
    (h1 : K w) (hs : StepsN (fun _ o => StK P (evL (nl ++ l)) K o ∨ RdK P (evL (nl ++ l)) nl K o) ops p c)
    (hQ : ∀ a' w', Fr df n (nl ++ l) a' → K w' → Rest P draw ops Q q a' w') : Rest P draw ops Q p a w := by
  have hst := steps_sub hq hs
  have step : ∀ j o w1, p ≤ j → j < q → ops[j]? = some o → K w1 → OpRuns P (evL (nl ++ l)) nl o w1 K := by
    intro j o w1 hp1 hp2 ho hW
    rcases hst j o hp1 hp2 ho with ⟨m1, m2⟩ | ⟨v, m1, m2⟩
    · obtain ⟨w2, m3, m4⟩ := m2 w1 hW
      exact ⟨undef, w2, .inr ⟨m3, rfl⟩, fun d hd => (by rw [m1] at hd; cases hd), m4⟩
    · exact ⟨v, w1, .inl (m1 w1 hW), m2, hW⟩
  cases draw with
  | true => exact drawn_phase (plainB_ok hp) hB (fun _ => K) hfr h1 (fun j o S w1 a1 a2 ho _ _ hW => step j o w1 a1 a2 ho hW) hQ
  | false => exact list_phase (plainB_ok hp) hB hfr (fun _ => K) h1 (fun j o w1 a1 a2 ho hW => step j o w1 a1 a2 ho hW) hQ
theorem rest_one {draw : Bool} {df : List Deferred} {n p q j1 g : Nat} {c : Nat} {ops : List Oper} {l nl : List (Nat × Value)} {Q : Exit → Act → World → Prop} {a : Act} {w : World} (R R' K : World → Prop) (hp : plainB ops = true) (hB : phaseB draw n p q ops l nl = true) (hj : p ≤ j1 ∧ j1 < q) (hfr : Fr df n l a) (hq : p + c = q)
    (h1 : R w) (h2 : K w) (k2 : ∀ w1 w2 : World, K w1 → w1.grownBy w2 (some g) → K w2)
    (hs : StepsN (fun j o => if j = j1 then StO P (evL (nl ++ l)) g R R' o else RdK P (evL (nl ++ l)) nl K o) ops p c)
    (hQ : ∀ a' w', Fr df n (nl ++ l) a' → R' w' → K w' → Rest P draw ops Q q a' w') : Rest P draw ops Q p a w := by
  have hst := steps_sub hq hs
  let W : (Nat → Bool) → World → Prop := fun S w' => (if S j1 = true then R' w' else R w') ∧ K w'
  have step : ∀ j o (S : Nat → Bool) w1, p ≤ j → j < q → ops[j]? = some o → S j = false → W S w1 → OpRuns P (evL (nl ++ l)) nl o w1 fun w' => W (fun i => i == j || S i) w' := by
    intro j o S w1 hp1 hp2 ho hsj ⟨hW1, hW2⟩
    have := hst j o hp1 hp2 ho
    by_cases e1 : j = j1
    · subst e1
      rw [if_pos rfl] at this
      rw [hsj] at hW1
      obtain ⟨m1, m2⟩ := this
      obtain ⟨w2, m3, m4, m5⟩ := m2 w1 hW1
      exact ⟨undef, w2, .inr ⟨m3, rfl⟩, fun d hd => (by rw [m1] at hd; cases hd), by simpa using m4, k2 _ _ hW2 m5⟩
    · rw [if_neg e1] at this
      obtain ⟨v, m1, m2⟩ := this
      have e1' : (j1 == j) = false := beq_eq_false_iff_ne.2 fun h => e1 h.symm
      exact ⟨v, w1, .inl (m1 w1 hW2), m2, by simp only [e1', Bool.false_or]; exact hW1, hW2⟩
  have h0 : W (fun i => decide (i < p)) w := ⟨by show (if decide (j1 < p) = true then R' w else R w); rw [if_neg (by simp; omega)]; exact h1, h2⟩
  have hend : ∀ a' w', Fr df n (nl ++ l) a' → W (fun i => decide (i < q)) w' → Rest P draw ops Q q a' w' := by
    intro a' w' hf ⟨hW1, hW2⟩
    have hW1 : if decide (j1 < q) = true then R' w' else R w' := hW1
    rw [if_pos (decide_eq_true hj.2)] at hW1
    exact hQ a' w' hf hW1 hW2
  cases draw with
  | true => exact drawn_phase (plainB_ok hp) hB W hfr h0 (fun j o S w1 a1 a2 ho hsj _ hW => step j o S w1 a1 a2 ho hsj hW) hend
  | false =>
    refine list_phase (plainB_ok hp) hB hfr (fun j => W fun i => decide (i < j)) h0 (fun j o w1 a1 a2 ho hW => ?_) hend
    obtain ⟨v, w2, b1, b2, b3⟩ := step j o (fun i => decide (i < j)) w1 a1 a2 ho (by simp) hW
    refine ⟨v, w2, b1, b2, ?_⟩
    have e : (fun i => i == j || decide (i < j)) = fun i => decide (i < j + 1) := by
      funext i
      by_cases h1 : i = j
      · subst h1; simp
      · have h2 : (i == j) = false := beq_eq_false_iff_ne.2 h1
        rw [h2, Bool.false_or]
        congr 1
        exact propext ⟨fun h => by omega, fun h => by omega⟩
    rw [← e]
    exact b3
theorem rest_app2 {df : List Deferred} {n p q j0 j1 : Nat} {c : Nat} {ops : List Oper} {l nl : List (Nat × Value)} {Q : Exit → Act → World → Prop} {a : Act} {w wA wB : World} (K : World → Prop) (hp : plainB ops = true) (hB : phaseB true n p q ops l nl = true) (hj : (p ≤ j0 ∧ j0 < q) ∧ (p ≤ j1 ∧ j1 < q) ∧ j0 ≠ j1) (hbf : (nthD 0 (befores ops []) j1).testBit j0 = true) (hfr : Fr df n l a) (hq : p + c = q)
    (h0 : K w) (hA : K wA) (hBB : K wB)
    (hs : StepsN (fun j o => if j = j0 then ∃ v, Ru P (evL (nl ++ l)) o w v wA ∧ ∀ d, o.dst = some d → hasK nl d = true → v = look nl d else if j = j1 then ∃ v, Ru P (evL (nl ++ l)) o wA v wB ∧ ∀ d, o.dst = some d → hasK nl d = true → v = look nl d else RdK P (evL (nl ++ l)) nl K o) ops p c)
    (hQ : ∀ a', Fr df n (nl ++ l) a' → Rest P true ops Q q a' wB) : Rest P true ops Q p a w := by
  have hst := steps_sub hq hs
  refine drawn_phase (plainB_ok hp) hB (fun S w' => if S j1 = true then S j0 = true ∧ w' = wB else w' = if S j0 = true then wA else w) hfr ?_ (fun j o S w1 h1 h2 ho hsj hbef hW => ?_) fun a' w' hf hW => ?_
  · simp only [decide_eq_true_eq]
    rw [if_neg (by omega), if_neg (by omega)]
  · have := hst j o h1 h2 ho
    by_cases e : j = j0
    · subst e
      rw [if_pos rfl] at this
      obtain ⟨v, k1, k2⟩ := this
      have hn : ¬ S j1 = true := fun hs1 => by
        rw [if_pos hs1, hsj] at hW
        cases hW.1
      rw [if_neg hn, hsj] at hW
      simp only [Bool.false_eq_true, if_false] at hW
      subst hW
      refine ⟨v, wA, .inl k1, k2, ?_⟩
      have e' : (j1 == j) = false := beq_eq_false_iff_ne.2 fun h => hj.2.2 h.symm
      show if (j1 == j || S j1) = true then (j == j || S j) = true ∧ wA = wB else wA = if (j == j || S j) = true then wA else w1
      rw [e', Bool.false_or, if_neg hn]
      simp
    · rw [if_neg e] at this
      have e0 : (j0 == j) = false := beq_eq_false_iff_ne.2 fun h => e h.symm
      by_cases e1 : j = j1
      · subst e1
        rw [if_pos rfl] at this
        obtain ⟨v, k1, k2⟩ := this
        rw [if_neg (by rw [hsj]; simp), if_pos (hbef j0 hbf)] at hW
        subst hW
        refine ⟨v, wB, .inl k1, k2, ?_⟩
        show if (j == j || S j) = true then (j0 == j || S j0) = true ∧ wB = wB else _
        rw [if_pos (by simp), e0, Bool.false_or]
        exact ⟨hbef j0 hbf, rfl⟩
      · rw [if_neg e1] at this
        obtain ⟨v, k1, k2⟩ := this
        have e1' : (j1 == j) = false := beq_eq_false_iff_ne.2 fun h => e1 h.symm
        have hK : K w1 := by
          split at hW
          · rw [hW.2]; exact hBB
          · rw [hW]; split
            · exact hA
            · exact h0
        refine ⟨v, w1, .inl (k1 w1 hK), k2, ?_⟩
        show if (j1 == j || S j1) = true then (j0 == j || S j0) = true ∧ w1 = wB else w1 = if (j0 == j || S j0) = true then wA else w
        rw [e0, e1', Bool.false_or, Bool.false_or]
        exact hW
  · have hW : if decide (j1 < q) = true then decide (j0 < q) = true ∧ w' = wB else w' = if decide (j0 < q) = true then wA else w := hW
    rw [if_pos (decide_eq_true hj.2.1.2)] at hW
    rw [hW.2]
    exact hQ a' hf
def toldB (l : List (Nat × Value)) (o : Oper) : Bool := o.op.operands.toList.all fun x => match x with
  | .tmp t => hasK l t
  | _ => true
theorem Fr.exec {df : List Deferred} {n : Nat} {l : List (Nat × Value)} {a : Act} (h : Fr df n l a) (hs : ∀ cs b, o.op ≠ .select cs b) (ht : toldB l o = true) : execOp a.eval o = execOp (evL l) o :=
  execOp_congr o hs fun x hx => by
    cases x with
    | tmp t => exact h.2.2 t (List.all_eq_true.1 ht (.tmp t) (by simpa using hx))
    | const v => rfl
    | global g => rfl
    | func f => rfl
def PickL (l : List (Nat × Value)) : List (Nat × Value) → Prop
  | [] => True
  | (t, v) :: r => (hasK l t = true ∧ look l t = v) ∧ PickL l r
theorem Fr.pick {df : List Deferred} {n : Nat} {l : List (Nat × Value)} {a : Act} (h : Fr df n l a) : ∀ (l' : List (Nat × Value)), PickL l l' → Fr df n l' a
  | [], _ => ⟨h.1, h.2.1, fun t ht => by cases ht⟩
  | (u, v) :: r, hp => by
    have ih := h.pick r hp.2
    refine ⟨h.1, h.2.1, fun t ht => ?_⟩
    simp only [look]
    cases hb : Nat.beq u t
    · simp only [hasK, hb, Bool.false_or] at ht
      exact ih.2.2 t ht
    · have := Nat.eq_of_beq_eq_true hb
      subst this
      exact (h.2.2 u hp.1.1).trans hp.1.2
theorem Fr.put {df : List Deferred} {n : Nat} {l : List (Nat × Value)} {a : Act} (h : Fr df n l a) {d : Nat} (hd : d < n) (v : Value) : Fr df n ((d, v) :: l) (a.put (some d) v) := by
  refine ⟨h.1, by rw [put_size]; exact h.2.1, fun t ht => ?_⟩
  simp only [look]
  cases hb : Nat.beq d t
  · have hne : (some d : Option Tmp) ≠ some t := fun e => by cases e; rw [Nat.beq_refl] at hb; cases hb
    rw [put_oth hne]
    simp only [hasK, hb, Bool.false_or] at ht
    exact h.2.2 t ht
  · have := Nat.eq_of_beq_eq_true hb
    subst this
    exact put_get (by rw [h.2.1]; exact hd)
theorem rest_app {draw : Bool} {df : List Deferred} {n p d : Nat} {ops : List Oper} {l : List (Nat × Value)} {Q : Exit → Act → World → Prop} {a : Act} {w : World} {o : Oper} {Z : Value → World → Prop} (hp : plainB ops = true) (hB : (!draw || soloB p ops) = true) (ho : ops[p]? = some o) (hfr : Fr df n l a) (ht : (toldB l o && Nat.blt d n) = true) (hd : o.dst = some d)
    (hr : ∃ v' w', Ru P (evL l) o w v' w' ∧ Z v' w') (hQ : ∀ v' w' a', Z v' w' → Fr df n ((d, v') :: l) a' → Rest P draw ops Q (p + 1) a' w') : Rest P draw ops Q p a w := by
  simp only [Bool.and_eq_true] at ht
  obtain ⟨v', w', h1, h2⟩ := hr
  refine rest_op hp hB ho ?_
  unfold Oper.wp
  rw [hfr.exec ((plainB_ok hp).s p o ho) ht.1, h1]
  show Rest P draw ops Q (p + 1) (a.put o.dst v') w'
  rw [hd]
  exact hQ v' w' _ h2 (hfr.put (by simpa using ht.2) v')
theorem rest_store {draw : Bool} {df : List Deferred} {n p : Nat} {ops : List Oper} {l : List (Nat × Value)} {Q : Exit → Act → World → Prop} {a : Act} {w : World} {o : Oper} {Z : World → Prop} (hp : plainB ops = true) (hB : (!draw || soloB p ops) = true) (ho : ops[p]? = some o) (hfr : Fr df n l a) (ht : toldB l o = true) (hd : o.dst = none)
    (hs : ∃ w', (execOp (evL l) o).run P w = .ok .skip w' ∧ Z w') (hQ : ∀ w', Z w' → Rest P draw ops Q (p + 1) a w') : Rest P draw ops Q p a w := by
  obtain ⟨w', h1, h2⟩ := hs
  refine rest_op hp hB ho ?_
  unfold Oper.wp
  rw [hfr.exec ((plainB_ok hp).s p o ho) ht, h1]
  show Rest P draw ops Q (p + 1) (a.put o.dst undef) w'
  rw [hd]
  exact hQ w' h2
theorem ru_iface {T : TypeId} {x : Operand} {v : Value} (ho : o.op = .makeInterface T x) (ht : ∃ fs, P.underlying T = some (.struct fs)) (hx : ρ x = v) : Ru P ρ o w (.iface T v) w := by
  obtain ⟨fs, ht⟩ := ht
  simp [Ru, execOp, ho, Instr.makeInterface, run_underlying ht, hx]
theorem rest_panic {draw : Bool} {df : List Deferred} {n p : Nat} {ops : List Oper} {l : List (Nat × Value)} {Q : Exit → Act → World → Prop} {a : Act} {w : World} {o : Oper} {x : Operand} {T : TypeId} {v : Value} (hp : plainB ops = true) (hB : (!draw || soloB p ops) = true) (ho : ops[p]? = some o) (hfr : Fr df n l a) (ht : toldB l o = true)
    (hop : o.op = .panic x) (hx : evL l x = .iface T v) (hQ : Q (.panic [{ v := .iface T v, recovered := false }]) a w) : Rest P draw ops Q p a w := by
  refine rest_op hp hB ho ?_
  unfold Oper.wp
  have : (execOp (evL l) o).run P w = .halt (.panic (.iface T v)) w := by
    have h0 : (Instr.panic (.iface T v)).run P w = .halt (.panic (.iface T v)) w := rfl
    simp [execOp, hop, hx, h0]
  rw [hfr.exec ((plainB_ok hp).s p o ho) ht, this]
  exact hQ
theorem rest_calls {draw : Bool} {df : List Deferred} {n p : Nat} {ops : List Oper} {l : List (Nat × Value)} {Q : Exit → Act → World → Prop} {a : Act} {w : World} {o : Oper} {args : Array Value} {f : FuncId} {xs : Array Operand} {ts : Array TypeId} {Z : Ending → World → Prop} (hp : plainB ops = true) (hB : (!draw || soloB p ops) = true) (ho : ops[p]? = some o) (hfr : Fr df n l a) (ht : toldB l o = true) (hop : o.op = .call ⟨.value (.func f), xs, ts⟩)
    (he : ∀ args w, (callFunc f args).run P w = .ok (.enter f args) w) (ha : xs.toList.map (evL l) = args.toList) (hc : Calls P f args w Z) (hr : ∀ v w', Z (.returned v) w' → Rest P draw ops Q (p + 1) (a.put o.dst v) w') (hx : ∀ ch w', Z (.panicked ch) w' → Q (.panic ch) a w') (hg : ∀ w', ¬ Z .outgrown w') : Rest P draw ops Q p a w := by
  have ha' : xs.map (evL l) = args := Array.ext' (by rw [Array.toList_map, ha])
  subst ha'
  refine rest_op hp hB ho ?_
  unfold Oper.wp
  rw [hfr.exec ((plainB_ok hp).s p o ho) ht]
  have hrun : (execOp (evL l) o).run P w = .ok (.enter f (xs.map (evL l))) w := by
    have : (execOp (evL l) o).run P w = (callFunc f (xs.map (evL l))).run P w := by
      obtain ⟨dst, op, ty, pos, af, gd⟩ := o
      simp only at hop
      subst hop
      simp [execOp, resolve, evL, Deferred.ofValue, invoke]
    rw [this, he]
  rw [hrun]
  refine Calls.mono hc fun e w' h => ?_
  cases e with
  | returned v => exact hr v w' h
  | panicked ch => exact hx ch w' h
  | outgrown => exact absurd h (hg w')
theorem rest_call {draw : Bool} {df : List Deferred} {n p : Nat} {ops : List Oper} {l : List (Nat × Value)} {Q : Exit → Act → World → Prop} {a : Act} {w : World} {o : Oper} {args : Array Value} {f : FuncId} {xs : Array Operand} {ts : Array TypeId} {Z : Value → World → Prop} (hp : plainB ops = true) (hB : (!draw || soloB p ops) = true) (ho : ops[p]? = some o) (hfr : Fr df n l a) (ht : toldB l o = true) (hop : o.op = .call ⟨.value (.func f), xs, ts⟩)
    (he : ∀ args w, (callFunc f args).run P w = .ok (.enter f args) w) (ha : xs.toList.map (evL l) = args.toList) (hc : Calls P f args w fun e w' => ∃ v, e = .returned v ∧ Z v w') (hQ : ∀ v w', Z v w' → Rest P draw ops Q (p + 1) (a.put o.dst v) w') : Rest P draw ops Q p a w := by
  have ha' : xs.map (evL l) = args := Array.ext' (by rw [Array.toList_map, ha])
  subst ha'
  refine rest_op hp hB ho ?_
  unfold Oper.wp
  rw [hfr.exec ((plainB_ok hp).s p o ho) ht]
  have hrun : (execOp (evL l) o).run P w = .ok (.enter f (xs.map (evL l))) w := by
    have : (execOp (evL l) o).run P w = (callFunc f (xs.map (evL l))).run P w := by
      obtain ⟨dst, op, ty, pos, af, gd⟩ := o
      simp only at hop
      subst hop
      simp [execOp, resolve, evL, Deferred.ofValue, invoke]
    rw [this, he]
  rw [hrun]
  refine Calls.mono hc fun e w' h => ?_
  obtain ⟨v, rfl, hz⟩ := h
  exact hQ v w' hz
theorem rest_call0 {draw : Bool} {df : List Deferred} {n p : Nat} {ops : List Oper} {l : List (Nat × Value)} {Q : Exit → Act → World → Prop} {a : Act} {w : World} {o : Oper} {args : Array Value} {f : FuncId} {xs : Array Operand} {ts : Array TypeId} {v0 : Value} {Z : World → Prop} (hp : plainB ops = true) (hB : (!draw || soloB p ops) = true) (ho : ops[p]? = some o) (hfr : Fr df n l a) (ht : toldB l o = true) (hop : o.op = .call ⟨.value (.func f), xs, ts⟩)
    (he : ∀ args w, (callFunc f args).run P w = .ok (.enter f args) w) (ha : xs.toList.map (evL l) = args.toList) (hc : Calls P f args w fun e w' => e = .returned v0 ∧ Z w') (hQ : ∀ w', Z w' → Rest P draw ops Q (p + 1) (a.put o.dst v0) w') : Rest P draw ops Q p a w :=
  rest_call (Z := fun v w' => v = v0 ∧ Z w') hp hB ho hfr ht hop he ha (Calls.mono hc fun e w' h => ⟨v0, h.1, rfl, h.2⟩) fun v w' h => by obtain ⟨rfl, h⟩ := h; exact hQ w' h
theorem ru_func {g : FuncId} {x : Operand} (ho : o.op = .makeFunc (.func g) #[] #[x]) : Ru P ρ o w (.func (.func g) #[] #[ρ x]) w := by
  simp [Ru, execOp, ho, Instr.makeFunc]
theorem list_defer {all : Array Oper} {rest : List Oper} {Q : Exit → Act → World → Prop} {df : List Deferred} {n : Nat} {l : List (Nat × Value)} {a : Act} {w : World} {o : Oper} {x : Operand} {g : FuncId} {cap : Array Value} (hg : o.guard = none) (hs : ∀ cs b, o.op ≠ .select cs b) (hfr : Fr df n l a) (ht : toldB l o = true) (hd : o.dst = none) (ho : o.op = .defer ⟨.value x, #[], #[]⟩) (hx : evL l x = .func (.func g) #[] cap)
    (hQ : ∀ a', Fr ({ target := .fn (.func g) cap, args := #[] } :: df) n l a' → wpList P all Q rest a' w) : wpList P all Q (o :: rest) a w := by
  refine list_cons hg ?_
  unfold Oper.wp
  rw [hfr.exec hs ht]
  have : (execOp (evL l) o).run P w = .ok (.defer { target := .fn (.func g) cap, args := #[] }) w := by
    simp [execOp, ho, resolve, hx, Deferred.ofValue]
  rw [this]
  show wpList P all Q rest (({ a with defers := { target := .fn (.func g) cap, args := #[] } :: a.defers } : Act).put o.dst undef) w
  rw [hd]
  exact hQ _ ⟨by show _ :: a.defers = _; rw [hfr.1], hfr.2.1, hfr.2.2⟩
theorem list_val {all : Array Oper} {rest : List Oper} {Q : Exit → Act → World → Prop} {df : List Deferred} {n d : Nat} {l : List (Nat × Value)} {a : Act} {w : World} {o : Oper} {v : Value} (hg : o.guard = none) (hs : ∀ cs b, o.op ≠ .select cs b) (hfr : Fr df n l a) (ht : (toldB l o && Nat.blt d n) = true) (hd : o.dst = some d) (hr : Ru P (evL l) o w v w)
    (hQ : ∀ a', Fr df n ((d, v) :: l) a' → wpList P all Q rest a' w) : wpList P all Q (o :: rest) a w := by
  simp only [Bool.and_eq_true] at ht
  refine list_cons hg ?_
  unfold Oper.wp
  rw [hfr.exec hs ht.1, hr]
  show wpList P all Q rest (a.put o.dst v) w
  rw [hd]
  exact hQ _ (hfr.put (by simpa using ht.2) v)
def Wok (all : Array Oper) (n : Nat) (l : List (Nat × Value)) (o : Oper) (y : Bool) : Prop := (o.guard = none ∧ y = true) ∨ ∃ j b p d, o.guard = some (j, b) ∧ all[j]? = some p ∧ p.dst = some d ∧ hasK l d = true ∧ d < n ∧ look l d = .bool (if y then b else !b)
theorem Wok.wanted {all : Array Oper} {df : List Deferred} {n : Nat} {l : List (Nat × Value)} {a : Act} {o : Oper} {y : Bool} (h : Wok all n l o y) (hfr : Fr df n l a) : Region.wanted o (yielded all a.tmps) = y := by
  unfold Region.wanted
  rcases h with ⟨hg, rfl⟩ | ⟨j, b, p, d, hg, hj, hd, hk, hn, hv⟩
  · rw [hg]
  · rw [hg]
    have hs : d < a.tmps.size := by rw [hfr.2.1]; exact hn
    have h1 : a.tmps[d]? = some (.bool (if y then b else !b)) := by
      have h2 := hfr.2.2 d hk
      rw [hv, Array.getD_eq_getD_getElem?, Array.getElem?_eq_getElem hs] at h2
      rw [Array.getElem?_eq_getElem hs]
      simpa using h2
    simp only
    rw [yielded_some (p := p) hj hd h1]
    cases y <;> cases b <;> rfl
theorem list_go {all : Array Oper} {rest : List Oper} {Q : Exit → Act → World → Prop} {df : List Deferred} {n d : Nat} {l : List (Nat × Value)} {a : Act} {w : World} {o : Oper} {v : Value} (hw : Wok all n l o true) (hs : ∀ cs b, o.op ≠ .select cs b) (hfr : Fr df n l a) (ht : (toldB l o && Nat.blt d n) = true) (hd : o.dst = some d) (hr : Ru P (evL l) o w v w)
    (hQ : ∀ a', Fr df n ((d, v) :: l) a' → wpList P all Q rest a' w) : wpList P all Q (o :: rest) a w := by
  simp only [Bool.and_eq_true] at ht
  unfold wpList
  rw [if_pos (hw.wanted hfr)]
  refine .inl ?_
  unfold Oper.wp
  rw [hfr.exec hs ht.1, hr]
  show wpList P all Q rest (a.put o.dst v) w
  rw [hd]
  exact hQ _ (hfr.put (by simpa using ht.2) v)
theorem list_no {all : Array Oper} {rest : List Oper} {Q : Exit → Act → World → Prop} {df : List Deferred} {n d : Nat} {l : List (Nat × Value)} {a : Act} {w : World} {o : Oper} (hw : Wok all n l o false) (hfr : Fr df n l a) (ht : Nat.blt d n = true) (hd : o.dst = some d)
    (hQ : ∀ a', Fr df n ((d, undef) :: l) a' → wpList P all Q rest a' w) : wpList P all Q (o :: rest) a w := by
  unfold wpList
  rw [if_neg (by rw [hw.wanted hfr]; simp)]
  rw [hd]
  exact hQ _ (hfr.put (by simpa using ht) undef)
theorem ru_pick {c x y : Operand} {b : Bool} {v : Value} (ho : o.op = .pick c x y) (hc : ρ c = .bool b) (hv : (if b then ρ x else ρ y) = v) : Ru P ρ o w v w := by
  simp [Ru, execOp, ho, hc, asBool, hv]
theorem ru_gt {T p : TypeId} {x y : Operand} {k : IntKind} {a b : Int} (ho : o.op = .binOp .gtr T x y p) (hx : ρ x = .int k a) (hy : ρ y = .int k b) : Ru P ρ o w (.bool (decide (a > b))) w :=
  ru_int ho hx hy (by simp only [binOp, Op.intCmp, ne_eq, not_true_eq_false, if_false, Sem.run_pure])
def fldV (P : Program) (T : TypeId) (j : Nat) : Option Nat := match P.underlying T with
  | some (.struct fs) => match fs[j]? with
    | some f => bif aggB P f.type || !(P.underlying f.type).isSome then none else some f.offset
    | none => none
  | _ => none
theorem ru_fieldV {T : TypeId} {x : Operand} {j d : Nat} {cs : List Value} {v : Value} (ho : o.op = .field T x j) (ht : fldV P T j = some d) (hx : ρ x = .agg cs.toArray) (hv : cs[d]? = some v) : Ru P ρ o w v w := by
  unfold fldV at ht
  split at ht
  · rename_i fs hu
    split at ht
    · rename_i f hf
      cases hb : (aggB P f.type || !(P.underlying f.type).isSome) <;> rw [hb] at ht
      · simp only [cond_false, Option.some.injEq] at ht
        subst ht
        simp only [Bool.or_eq_false_iff, Bool.not_eq_false'] at hb
        obtain ⟨ud, hud⟩ := Option.isSome_iff_exists.1 hb.2
        have hag := run_isAgg (P := P) hud w
        rw [hb.1] at hag
        simp [Ru, execOp, ho, Instr.field, run_underlying hu, hf, hx, asAgg, part, hag, hv]
      · cases ht
    · cases ht
  · cases ht
theorem own_form {e : TypeId} {sz n : Nat} {v : Value} {xs : List Value} (h : w.ownsRow 0 e sz v n xs) (hn : 0 < n) : ∃ g c, v = .slice (some ⟨g, 0, none⟩) n c := by
  rcases h.2 with ⟨_, h0⟩ | ⟨g, cap, cur, rfl, _⟩
  · omega
  · exact ⟨g, cap, rfl⟩
theorem own_slice {e : TypeId} {sz n : Nat} {v : Value} {xs : List Value} (h : w.ownsRow 0 e sz v n xs) : ∃ A c, v = .slice A n c := by
  rcases h.2 with ⟨rfl, rfl⟩ | ⟨g, cap, cur, rfl, _⟩
  · exact ⟨_, _, rfl⟩
  · exact ⟨_, _, rfl⟩
theorem own_box {e : TypeId} {cs : List Value} {n : Nat} (hl : cs.length = n) : (w.alloc (.cells cs.toArray e)).ownsRow 0 e n (.slice (some ⟨w.heap.size, 0, none⟩) 1 1) 1 cs := by
  have := World.ownsRow_lit (w := w) (base := 0) (e := e) (size := n) cs.toArray 1 (Nat.zero_le _) (by simp [maxLen]) (by simp [hl])
  simpa using this
theorem At.all {e : TypeId} {sz n c g : Nat} {xs : List Value} (h : w.ownsRow 0 e sz (.slice (some ⟨g, 0, none⟩) n c) n xs) : At w g 0 xs := At.row h rfl (seg_all xs)
theorem post_ret0 {fn : Func} {a : Act} {Z : Ending → World → Prop} (h : fn.results.toList = []) (hd : a.defers = []) (hz : Z (.returned (.tuple #[])) w) : bodyPost P fn Z .ret a w :=
  ⟨hd, .tuple #[], results_tuple (us := []) (fun f _ _ => by rw [h]; rfl), hz⟩
theorem post_end0 {fn : Func} {a : Act} {Z : Ending → World → Prop} (h : fn.results.toList = []) (hd : a.defers = []) (hz : Z (.returned (.tuple #[])) w) : bodyPost P fn Z .normal a w :=
  ⟨hd, .tuple #[], results_tuple (us := []) (fun f _ _ => by rw [h]; rfl), hz⟩
theorem fr_entry {args : Array Value} {n : Nat} {l : List (Nat × Value)} (h1 : args.size ≤ n) (h2 : ∀ t, hasK l t = true → t < args.size ∧ args.getD t undef = look l t) : Fr [] n l { tmps := args ++ Array.replicate (n - args.size) undef, defers := [] } := by
  refine ⟨rfl, by simp; omega, fun t ht => ?_⟩
  obtain ⟨h3, h4⟩ := h2 t ht
  rw [← h4]
  simp [Array.getD_eq_getD_getElem?, Array.getElem?_append, h3]
theorem wp_loop_n {c : Code} {Q : Exit → Act → World → Prop} {a : Act} {w : World} (J : Nat → Act → World → Prop) (N : Nat) (h0 : J N a w)
    (hs : ∀ m a w, J m a w → c.wp P (Exit.then (fun a' w' => ∃ m', m' < m ∧ J m' a' w') Q) a w) : (Code.loop c).wp P Q a w := by
  have mono : ∀ {c : Code} {Q Q' : Exit → Act → World → Prop} {a : Act} {w : World}, c.wp P Q a w → (∀ e a w, Q e a w → Q' e a w) → c.wp P Q' a w := fun h hq => wp_mono h hq
  have up : ∀ n m a w, n ≤ m → Code.rounds P c Q n a w → Code.rounds P c Q m a w := by
    intro n
    induction n with
    | zero => intro m a w _ h; exact h.elim
    | succ n ih =>
      intro m a w hm h
      cases m with
      | zero => omega
      | succ m =>
        refine mono h fun e a w h => ?_
        cases e with
        | normal => exact ih m a w (by omega) h
        | _ => exact h
  have key : ∀ m a w, J m a w → Code.rounds P c Q (m + 1) a w := by
    intro m
    induction m using Nat.strongRecOn with
    | _ m ih =>
      intro a w hj
      refine mono (hs m a w hj) fun e a w h => ?_
      cases e with
      | normal =>
        obtain ⟨m', h1, h2⟩ := h
        exact up _ _ _ _ (by omega) (ih m' h1 a w h2)
      | _ => exact h
  exact wp_loop_rounds (N + 1) (key N a w h0)
end Go.FK
