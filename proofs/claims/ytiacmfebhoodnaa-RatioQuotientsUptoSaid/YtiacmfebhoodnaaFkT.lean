/- A body's code: what the interpreter finds holds of the machine, the points' functions given. -/
import Derived.Test.YtiacmfebhoodnaaFkS
namespace Go.FK
open Go.RowKit

variable {P : Program} {X R : Type} {nt : Nat × List Value}

/-! ### Loops -/
/-- At a loop's head, inside the loop. -/
def loopIn (P : Program) (c : Code) (Q : Exit → Act → World → Prop) (a : Act) (w : World) : Prop :=
  ∀ (b : Frame) (k : List Item) (cs : List Frame), ∃ e a' w', Q e a' w' ∧ Arrives P (lone (b.at a (.code c :: .inLoop c :: k)) cs w) b k cs e a' w'

theorem loopIn.wp {c : Code} {Q : Exit → Act → World → Prop} {a : Act} {w : World} (h : loopIn P c Q a w) : (Code.loop c).wp P Q a w := by
  intro b k cs
  obtain ⟨e, a', w', hq, harr⟩ := h b k cs
  exact ⟨e, a', w', hq, .of_steps (.one step_loop) harr⟩

theorem loopIn_of {c : Code} {Q : Exit → Act → World → Prop} {a : Act} {w : World} (h : c.wp P (Exit.then (loopIn P c Q) Q) a w) : loopIn P c Q a w := by
  intro b k cs
  obtain ⟨e, a₁, w₁, hq, harr⟩ := h b (.inLoop c :: k) cs
  cases e with
  | normal =>
    obtain ⟨e₂, a₂, w₂, hq₂, harr₂⟩ := hq b k cs
    exact ⟨e₂, a₂, w₂, hq₂, .of_steps (Steps.trans harr (.one step_inLoop)) harr₂⟩
  | exit id => exact ⟨_, a₁, w₁, hq, .pass (x := .inLoop c) rfl (fun _ _ => .inl (by simp)) harr⟩
  | goto l => exact ⟨_, a₁, w₁, hq, .pass (x := .inLoop c) rfl (fun _ _ => .inl (by simp)) harr⟩
  | ret => exact ⟨_, a₁, w₁, hq, .pass (x := .inLoop c) rfl (fun _ _ => .inl (by simp)) harr⟩
  | panic ch => exact ⟨_, a₁, w₁, hq, .pass (x := .inLoop c) rfl (fun _ _ => .inl (by simp)) harr⟩
  | outgrown => exact ⟨_, a₁, w₁, hq, .pass (x := .inLoop c) rfl (fun _ _ => .inl (by simp)) harr⟩

/-! ### Points in code -/
def ptsOf : (bid : Nat) → Code → List Nat
  | _, .region r _ _ => [2 * r + 1]
  | bid, .seq a b => ptsOf bid a ++ ptsOf bid b
  | bid, .cond _ t e => ptsOf bid t ++ ptsOf bid e
  | _, .block id c => ptsOf id c
  | bid, .loop c => 2 * bid :: ptsOf bid c
  | _, _ => []

theorem hasPt_mem (p : Nat) : ∀ (bid : Nat) (c : Code), hasPt p bid c = true ↔ p ∈ ptsOf bid c := by
  intro bid c
  induction c generalizing bid with
  | region r ops d => simp [hasPt, ptsOf]
  | seq a b iha ihb => simp [hasPt, ptsOf, iha, ihb]
  | cond x t e iht ihe => simp [hasPt, ptsOf, iht, ihe]
  | block id c ih => simp [hasPt, ptsOf, ih]
  | loop c ih => simp [hasPt, ptsOf, ih]
  | _ => simp [hasPt, ptsOf]

theorem hasN_mem {x : Nat} : ∀ {l : List Nat}, hasN x l = true ↔ x ∈ l
  | [] => by simp [hasN]
  | y :: ys => by simp [hasN, hasN_mem]

theorem distinct_append {l m : List Nat} (h : distinct (l ++ m) = true) : distinct l = true ∧ distinct m = true ∧ ∀ x, x ∈ l → x ∉ m := by
  induction l with
  | nil => exact ⟨rfl, h, fun x hx => by cases hx⟩
  | cons y ys ih =>
    simp only [List.cons_append, distinct, Bool.and_eq_true, Bool.not_eq_true'] at h
    obtain ⟨h1, h2, h3⟩ := ih h.2
    have hy : y ∉ ys ++ m := by
      rw [← hasN_mem]
      simp [h.1]
    simp only [List.mem_append, not_or] at hy
    refine ⟨?_, h2, fun x hx => ?_⟩
    · simp only [distinct, Bool.and_eq_true, Bool.not_eq_true']
      refine ⟨?_, h1⟩
      cases hq : hasN y ys with
      | false => rfl
      | true => exact absurd (hasN_mem.1 hq) hy.1
    · rcases List.mem_cons.1 hx with hx | hx
      · rw [hx]; exact hy.2
      · exact h3 x hx

/-- What is to hold at a point of the code. -/
def AtPt (P : Program) (p : Nat) : (bid : Nat) → Code → (Exit → Act → World → Prop) → Act → World → Prop
  | _, .region r ops d, Q, a, w => p = 2 * r + 1 → (Code.region r ops d).wp P Q a w
  | bid, .seq x y, Q, a, w => if hasPt p bid x = true then AtPt P p bid x (Exit.then (y.wp P Q) Q) a w else AtPt P p bid y Q a w
  | bid, .cond _ t e, Q, a, w => if hasPt p bid t = true then AtPt P p bid t Q a w else AtPt P p bid e Q a w
  | _, .block id c, Q, a, w => AtPt P p id c (Exit.inBlock id Q) a w
  | bid, .loop c, Q, a, w => if p = 2 * bid then loopIn P c Q a w else AtPt P p bid c (Exit.then (loopIn P c Q) Q) a w
  | _, _, _, _, _ => True

section
variable {E : Env X} (hty : ∀ T ti, E.ty T = some ti → TyOk P T ti) (hfn : FnsOk P E) (hmix : P.follows .mixedOrders = true) {r : X} {M0 : Nat → Prop} {b0 : Nat → Prop} {w0 : World}

def Holds (M0 : Nat → Prop) (b0 : Nat → Prop) (w0 : World) (nt : Nat × List Value) (r : X) (K : Exit → St → Option X) (Q : Exit → Act → World → Prop) : Prop :=
  ∀ e s a w, K e s = some r → Matches M0 b0 w0 nt s a w → Q e a w

theorem Holds.seq {f : St → Option X} {K : Exit → St → Option X} {Q : Exit → Act → World → Prop} {g : Act → World → Prop} (h : Holds M0 b0 w0 nt r K Q) (hf : ∀ s a w, f s = some r → Matches M0 b0 w0 nt s a w → g a w) :
    Holds M0 b0 w0 nt r (seqK f K) (Exit.then g Q) := by
  intro e s a w he hm
  cases e <;> first | exact hf s a w he hm | exact h _ s a w he hm

theorem Holds.block {id : Nat} {K : Exit → St → Option X} {Q : Exit → Act → World → Prop} (h : Holds M0 b0 w0 nt r K Q) : Holds M0 b0 w0 nt r (blockK id K) (Exit.inBlock id Q) := by
  intro e s a w he hm
  cases e with
  | exit j =>
    simp only [blockK] at he
    simp only [Exit.inBlock]
    by_cases hj : j = id
    · rw [if_pos hj]
      have : (j == id) = true := by simp [hj]
      rw [this] at he
      exact h _ s a w he hm
    · rw [if_neg hj]
      have : (j == id) = false := by simp [hj]
      rw [this] at he
      exact h _ s a w he hm
  | _ => exact h _ s a w he hm

/-- The points in a piece of code, each as it is met there. -/
def Pts (P : Program) (E : Env X) (M0 : Nat → Prop) (b0 : Nat → Prop) (w0 : World) (nt : Nat × List Value) (r : X) (bid : Nat) (c : Code) (Q : Exit → Act → World → Prop) : Prop :=
  ∀ p s a w, hasPt p bid c = true → pointK E p s = some r → Matches M0 b0 w0 nt s a w → AtPt P p bid c Q a w

theorem Pts.left {bid : Nat} {x y : Code} {Q : Exit → Act → World → Prop} (h : Pts P E M0 b0 w0 nt r bid (.seq x y) Q) : Pts P E M0 b0 w0 nt r bid x (Exit.then (y.wp P Q) Q) := by
  intro p s a w hp hk hm
  have := h p s a w (by simp [hasPt, hp]) hk hm
  simpa only [AtPt, hp, if_true] using this

theorem Pts.right {bid : Nat} {x y : Code} {Q : Exit → Act → World → Prop} (hd : distinct (ptsOf bid (.seq x y)) = true) (h : Pts P E M0 b0 w0 nt r bid (.seq x y) Q) : Pts P E M0 b0 w0 nt r bid y Q := by
  intro p s a w hp hk hm
  have := h p s a w (by simp [hasPt, hp]) hk hm
  have hno : ¬ hasPt p bid x = true := by
    rw [hasPt_mem] at hp ⊢
    exact fun hx => (distinct_append hd).2.2 p hx hp
  simpa only [AtPt, if_neg hno] using this

theorem Pts.thn {bid : Nat} {x : Operand} {t e : Code} {Q : Exit → Act → World → Prop} (h : Pts P E M0 b0 w0 nt r bid (.cond x t e) Q) : Pts P E M0 b0 w0 nt r bid t Q := by
  intro p s a w hp hk hm
  have := h p s a w (by simp [hasPt, hp]) hk hm
  simpa only [AtPt, hp, if_true] using this

theorem Pts.els {bid : Nat} {x : Operand} {t e : Code} {Q : Exit → Act → World → Prop} (hd : distinct (ptsOf bid (.cond x t e)) = true) (h : Pts P E M0 b0 w0 nt r bid (.cond x t e) Q) : Pts P E M0 b0 w0 nt r bid e Q := by
  intro p s a w hp hk hm
  have := h p s a w (by simp [hasPt, hp]) hk hm
  have hno : ¬ hasPt p bid t = true := by
    rw [hasPt_mem] at hp ⊢
    exact fun hx => (distinct_append hd).2.2 p hx hp
  simpa only [AtPt, if_neg hno] using this

theorem Pts.blk {bid id : Nat} {c : Code} {Q : Exit → Act → World → Prop} (h : Pts P E M0 b0 w0 nt r bid (.block id c) Q) : Pts P E M0 b0 w0 nt r id c (Exit.inBlock id Q) := by
  intro p s a w hp hk hm
  exact h p s a w (by simpa [hasPt] using hp) hk hm

theorem Pts.head {bid : Nat} {c : Code} {Q : Exit → Act → World → Prop} (h : Pts P E M0 b0 w0 nt r bid (.loop c) Q) : ∀ s a w, pointK E (2 * bid) s = some r → Matches M0 b0 w0 nt s a w → loopIn P c Q a w := by
  intro s a w hk hm
  have := h (2 * bid) s a w (by simp [hasPt]) hk hm
  simpa only [AtPt, if_true] using this

theorem Pts.inner {bid : Nat} {c : Code} {Q : Exit → Act → World → Prop} (hd : distinct (ptsOf bid (.loop c)) = true) (h : Pts P E M0 b0 w0 nt r bid (.loop c) Q) : Pts P E M0 b0 w0 nt r bid c (Exit.then (loopIn P c Q) Q) := by
  intro p s a w hp hk hm
  have := h p s a w (by simp [hasPt, hp]) hk hm
  have hno : ¬ p = 2 * bid := by
    intro e
    rw [hasPt_mem] at hp
    simp only [ptsOf, distinct, Bool.and_eq_true, Bool.not_eq_true'] at hd
    rw [e] at hp
    rw [hasN_mem.2 hp] at hd
    cases hd.1
  simpa only [AtPt, if_neg hno] using this

theorem distinct_inner {bid : Nat} {c : Code} (hd : distinct (ptsOf bid (.loop c)) = true) : distinct (ptsOf bid c) = true := by
  simp only [ptsOf, distinct, Bool.and_eq_true] at hd
  exact hd.2

include hty hfn hmix in
theorem codeK_sound : ∀ (c : Code) (bid : Nat) (s : St) (K : Exit → St → Option X) (Q : Exit → Act → World → Prop) (a : Act) (w : World), codeK E bid c s K = some r → distinct (ptsOf bid c) = true → Pts P E M0 b0 w0 nt r bid c Q → Holds M0 b0 w0 nt r K Q →
    Matches M0 b0 w0 nt s a w → c.wp P Q a w := by
  intro c
  induction c with
  | skip => intro bid s K Q a w h _ _ hK hm; exact wp_skip (hK _ s a w h hm)
  | region rr ops draw =>
    intro bid s K Q a w h hd hp hK hm
    simp only [codeK] at h
    split at h
    · have := hp (2 * rr + 1) s a w (by simp [hasPt]) h hm
      exact this rfl
    · exact region_sound hty hfn hmix h hm fun s' a' w' hk hm' => hK _ _ _ _ hk hm'
  | seq x y ihx ihy =>
    intro bid s K Q a w h hd hp hK hm
    have hdd := distinct_append hd
    refine wp_seq (ihx bid s _ _ a w h hdd.1 hp.left (hK.seq fun s' a' w' hk hm' => ihy bid s' K Q a' w' hk hdd.2.1 (hp.right hd) hK hm') hm)
  | cond x t e iht ihe =>
    intro bid s K Q a w h hd hp hK hm
    have hdd := distinct_append hd
    simp only [codeK] at h
    split at h
    · rename_i b hb
      obtain ⟨_, _, _, _, ν, hw, hg, hr⟩ := hm
      have hv := evA_rep hr x
      rw [hb] at hv
      have hv := repV_bool hv
      have hm : Matches M0 b0 w0 nt s a w := ⟨‹_›, ‹_›, ‹_›, ‹_›, ν, hw, hg, hr⟩
      refine wp_cond hv ?_
      cases b
      · simp only [cond_false] at h
        exact ihe bid s K Q a w h hdd.2.1 (hp.els hd) hK hm
      · simp only [cond_true] at h
        exact iht bid s K Q a w h hdd.1 hp.thn hK hm
    · cases h
  | block id c ih =>
    intro bid s K Q a w h hd hp hK hm
    exact wp_block (ih id s _ _ a w h hd hp.blk hK.block hm)
  | loop c ih =>
    intro bid s K Q a w h hd hp hK hm
    exact (hp.head s a w h hm).wp
  | exit id => intro bid s K Q a w h _ _ hK hm; exact wp_exit (hK _ s a w h hm)
  | ret => intro bid s K Q a w h _ _ hK hm; exact wp_ret (hK _ s a w h hm)
  | _ => intro bid s K Q a w h; simp [codeK] at h

include hty hfn hmix in
theorem fromK_sound {p : Nat} : ∀ (c : Code) (bid : Nat) (s : St) (K : Exit → St → Option X) (Q : Exit → Act → World → Prop) (a : Act) (w : World), fromK E p bid c s K = some r → distinct (ptsOf bid c) = true → Pts P E M0 b0 w0 nt r bid c Q → Holds M0 b0 w0 nt r K Q →
    Matches M0 b0 w0 nt s a w → AtPt P p bid c Q a w := by
  intro c
  induction c with
  | region rr ops draw =>
    intro bid s K Q a w h hd hp hK hm e
    simp only [fromK, e, BEq.rfl, cond_true] at h
    exact region_sound hty hfn hmix h hm fun s' a' w' hk hm' => hK _ _ _ _ hk hm'
  | seq x y ihx ihy =>
    intro bid s K Q a w h hd hp hK hm
    have hdd := distinct_append hd
    simp only [fromK] at h
    simp only [AtPt]
    cases hx : hasPt p bid x <;> simp only [hx, cond_true, cond_false] at h
    · simp only [Bool.false_eq_true, if_false]
      exact ihy bid s K Q a w h hdd.2.1 (hp.right hd) hK hm
    · simp only [if_true]
      exact ihx bid s _ _ a w h hdd.1 hp.left (hK.seq fun s' a' w' hk hm' => codeK_sound hty hfn hmix y bid s' K Q a' w' hk hdd.2.1 (hp.right hd) hK hm') hm
  | cond x t e iht ihe =>
    intro bid s K Q a w h hd hp hK hm
    have hdd := distinct_append hd
    simp only [fromK] at h
    simp only [AtPt]
    cases hx : hasPt p bid t <;> simp only [hx, cond_true, cond_false] at h
    · simp only [Bool.false_eq_true, if_false]
      exact ihe bid s K Q a w h hdd.2.1 (hp.els hd) hK hm
    · simp only [if_true]
      exact iht bid s K Q a w h hdd.1 hp.thn hK hm
  | block id c ih =>
    intro bid s K Q a w h hd hp hK hm
    exact ih id s _ _ a w h hd hp.blk hK.block hm
  | loop c ih =>
    intro bid s K Q a w h hd hp hK hm
    have hL : Holds M0 b0 w0 nt r (loopK E bid K) (Exit.then (loopIn P c Q) Q) := by
      intro e s' a' w' he hm'
      cases e <;> first | exact hp.head s' a' w' he hm' | exact hK _ s' a' w' he hm'
    simp only [fromK] at h
    simp only [AtPt]
    by_cases hx : p = 2 * bid
    · have : (p == 2 * bid) = true := by simp [hx]
      rw [this] at h
      rw [if_pos hx]
      exact loopIn_of (codeK_sound hty hfn hmix c bid s _ _ a w h (distinct_inner hd) (hp.inner hd) hL hm)
    · have : (p == 2 * bid) = false := by simp [hx]
      rw [this] at h
      rw [if_neg hx]
      exact ih bid s _ _ a w h (distinct_inner hd) (hp.inner hd) hL hm
  | _ => intro bid s K Q a w _ _ _ _ _; trivial

end
end Go.FK
