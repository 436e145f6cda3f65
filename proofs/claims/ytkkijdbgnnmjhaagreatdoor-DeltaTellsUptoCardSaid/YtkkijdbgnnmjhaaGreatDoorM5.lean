
/- The plain law of Delta: Small of a list of gaps, the program's and the reference's. -/
import Derived.Test.YtkkijdbgnnmjhaaGreatDoorM4
namespace Go.FK

abbrev GG := DD × DD
abbrev gd : GG := ((((false, ([] : List Int)), ([] : List Int)), ((false, ([] : List Int)), ([] : List Int))), (((false, ([] : List Int)), ([] : List Int)), ((false, ([] : List Int)), ([] : List Int))))
structure Gt (M : Nat) (g : GG) : Prop where
  lo : Dt M g.1 (Qv g.1.1) (Qv g.1.2)
  hi : Dt M g.2 (Qv g.2.1) (Qv g.2.2)
def Gs (M : Nat) (l : List GG) : Prop := ∀ g ∈ l, Gt M g

theorem nthD_at {α : Type} (d : α) {l : List α} {i : Nat} (h : i < l.length) : nthD d l i = l[i] := by
  rw [nthD_eq, List.getD_eq_getElem?_getD]; simp [h]
theorem drop_consD {α : Type} (d : α) {l : List α} {i : Nat} (h : i < l.length) : l.drop i = nthD d l i :: l.drop (i + 1) := by
  rw [nthD_at d h]; exact List.drop_eq_getElem_cons h
theorem Gs.get {M : Nat} {l : List GG} (h : Gs M l) {i : Nat} (hi : i < l.length) : Gt M (nthD gd l i) := by
  rw [nthD_at gd hi]; exact h _ (List.getElem_mem hi)

/-! ### The twin of a list of gaps -/
theorem gaps_p0 {M : Nat} {a : List GG} (ha : Gs M a) (hM : M ≤ 70368744177664) (hb : a.length ≤ 9223372036854775806) : ∀ (m n : Nat), m + n = a.length → ∀ (o : List GG), o.length = a.length → (∀ i, i < n → nthD gd o i = nthD gd a i) → Ev (fun k => law05_gaps.p0 k o a (n : Int)) a := by
  intro m
  induction m with
  | zero =>
    intro n hn o ho hc
    refine Ev.turn (fun k => law05_gaps.p0_succ k o a n) ?_
    unfold law05_gaps.e0
    refine Ev.fls (by simp; omega) ?_
    have : o = a := by
      apply List.ext_getElem ho
      intro i h1 h2
      have := hc i (by omega)
      rwa [nthD_at gd h1, nthD_at gd h2] at this
    rw [this]
    exact Ev.pure
  | succ m ih =>
    intro n hn o ho hc
    refine Ev.turn (fun k => law05_gaps.p0_succ k o a n) ?_
    unfold law05_gaps.e0
    have e : IntKind.i64.wrap ((n : Int) + 1) = ((n + 1 : Nat) : Int) := by rw [wrap_i64 (by omega) (by omega)]; omega
    simp only [e, Int.toNat_natCast]
    have g := ha.get (i := n) (by omega)
    refine Ev.tru (by simp; omega) (Ev.tru (by simp; omega) (Ev.bind (g.lo.twin hM) (Ev.tru (by simp; omega) (Ev.bind (g.hi.twin hM) (Ev.tru (by simp; omega) ?_)))))
    refine ih (n + 1) (by omega) _ (by rw [length_setN]; exact ho) fun i hi => ?_
    rw [nthD_setN]
    by_cases h : n = i
    · subst h; rw [if_pos ⟨rfl, by omega⟩]
    · rw [if_neg (fun h' => h h'.1)]
      exact hc i (by omega)

theorem gaps_ev {M : Nat} {a : List GG} (ha : Gs M a) (hM : M ≤ 70368744177664) (h : a.length ≤ 1000000000) : Ev (fun k => law05_gaps.f k a) a := by
  unfold law05_gaps.f law05_gaps.e
  refine Ev.tru (by simp; omega) ?_
  exact gaps_p0 ha hM (by omega) a.length 0 (by omega) _ (by simp) fun i hi => by omega

/-! ### One gap -/
def high (g : GG) : Rat := Qv g.2.1 - Qv g.1.1
def steep (g : GG) : Rat := Qv g.1.2 - Qv g.2.2
def gbad (g : GG) : Bool := decide (0 < dcm (Qv g.1.1) (Qv g.1.2) (Qv g.2.1) (Qv g.2.2))
def gmin (o : Rat) (g : GG) : Rat :=
  if (high g).num.sign ≤ 0 then o else if (steep g).num.sign ≤ 0 then o else if high g * (steep g)⁻¹ < o then high g * (steep g)⁻¹ else o
def small (l : List GG) : RR × Int := if l.any gbad then (noRat, 51) else (rat (l.foldl gmin 1), 0)

section
variable {M : Nat} {g : GG} {o : Rat}
theorem Gt.sizes (h : Gt M g) (h1 : 1 ≤ M) : LQ (high g) ≤ 9 * M ∧ LQ (steep g) ≤ 9 * M := by
  have a1 := h.lo.a.LQ h1
  have a2 := h.lo.b.LQ h1
  have a3 := h.hi.a.LQ h1
  have a4 := h.hi.b.LQ h1
  have l1 := LQ_sub (Qv g.2.1) (Qv g.1.1)
  have l2 := LQ_sub (Qv g.1.2) (Qv g.2.2)
  unfold high steep
  omega
theorem Gt.quot (h : Gt M g) (h1 : 1 ≤ M) : LQ (high g * (steep g)⁻¹) ≤ 19 * M := by
  have := h.sizes h1
  have l1 := LQ_mul (high g) (steep g)⁻¹
  have l2 := LQ_inv (steep g)
  omega
theorem gmin_LQ (h : Gt M g) (h1 : 1 ≤ M) (ho : LQ o ≤ 19 * M) : LQ (gmin o g) ≤ 19 * M := by
  unfold gmin
  split
  · exact ho
  · split
    · exact ho
    · split
      · exact h.quot h1
      · exact ho

theorem c1_ev (h : Gt M g) (h1 : 1 ≤ M) (hM : M ≤ 1000000000) (ho : LQ o ≤ 19 * M) : Ev (fun k => delta_Small_c1.f k g (rat o)) (rat (gmin o g)) := by
  have s1 := h.sizes h1
  have s2 := h.quot h1
  have r1 : Rt (19 * M) (rat (high g)) (high g) := Rt.of (by omega)
  have r2 : Rt (19 * M) (rat (steep g)) (steep g) := Rt.of (by omega)
  have r3 : Rt (19 * M) (rat (high g * (steep g)⁻¹)) (high g * (steep g)⁻¹) := Rt.of s2
  have r4 : Rt (19 * M) (rat o) o := Rt.of ho
  unfold delta_Small_c1.f delta_Small_c1.e gmin
  refine Ev.bind (h.hi.a.sub h.lo.a h1 (by omega)) (Ev.bind (h.lo.b.sub h.hi.b h1 (by omega)) (Ev.bind (r1.sign (by omega) (by omega)) ?_))
  by_cases c1 : (high g).num.sign ≤ 0
  · rw [if_pos c1]; exact Ev.tru (decide_eq_true c1) Ev.pure
  rw [if_neg c1]
  refine Ev.fls (decide_eq_false c1) (Ev.bind (r2.sign (by omega) (by omega)) ?_)
  by_cases c2 : (steep g).num.sign ≤ 0
  · rw [if_pos c2]; exact Ev.tru (decide_eq_true c2) Ev.pure
  rw [if_neg c2]
  have hne : steep g ≠ 0 := fun h0 => c2 (by rw [h0]; decide)
  refine Ev.fls (decide_eq_false c2) (Ev.bind (r1.div r2 (by omega) (by omega) hne) (Ev.bind (r3.cmp r4 (by omega) (by omega)) ?_))
  by_cases c3 : high g * (steep g)⁻¹ < o
  · rw [if_pos c3]; exact Ev.tru (decide_eq_true (qs_neg.2 c3)) Ev.pure
  · rw [if_neg c3]; exact Ev.fls (decide_eq_false (fun h => c3 (qs_neg.1 h))) Ev.pure
end

section
variable {M : Nat} {l : List GG}
theorem small_p4 (hl : Gs M l) (h1 : 1 ≤ M) (hM : M ≤ 1000000000) (hlen : l.length ≤ 1000000000) (w : RR) : ∀ (m i : Nat) (o : Rat), m + i = l.length → LQ o ≤ 19 * M → Ev (fun k => delta_Small.p4 k w (rat o) l (l.length : Int) (i : Int)) (rat ((l.drop i).foldl gmin o), (0 : Int)) := by
  intro m
  induction m with
  | zero =>
    intro i o hi ho
    refine Ev.turn (fun k => delta_Small.p4_succ k _ _ _ _ _) ?_
    unfold delta_Small.e4
    rw [List.drop_eq_nil_of_le (by omega)]
    exact Ev.fls (by simp; omega) Ev.pure
  | succ m ih =>
    intro i o hi ho
    refine Ev.turn (fun k => delta_Small.p4_succ k _ _ _ _ _) ?_
    unfold delta_Small.e4
    have e : IntKind.i64.wrap ((i : Int) + 1) = ((i + 1 : Nat) : Int) := by rw [wrap_i64 (by omega) (by omega)]; omega
    simp only [e, Int.toNat_natCast]
    have g := hl.get (i := i) (by omega)
    rw [drop_consD gd (by omega), List.foldl_cons]
    exact Ev.tru (by simp; omega) (Ev.tru (by simp; omega) (Ev.bind (c1_ev g h1 hM ho) (ih (i + 1) _ (by omega) (gmin_LQ g h1 ho))))

theorem LQ_one' {M : Nat} (h1 : 1 ≤ M) : LQ 1 ≤ 19 * M := by
  have : LQ 1 = LZ 1 + 1 := LQ_int 1
  have h2 : LZ 1 = 1 := L_one
  omega

theorem small_p0 (hl : Gs M l) (h1 : 1 ≤ M) (hM : M ≤ 1000000000) (hlen : l.length ≤ 1000000000) (w : RR) : ∀ (m i : Nat), m + i = l.length → Ev (fun k => delta_Small.p0 k w (rat 1) l l (l.length : Int) (i : Int)) (if (l.drop i).any gbad then (noRat, 51) else (rat (l.foldl gmin 1), (0 : Int))) := by
  intro m
  induction m with
  | zero =>
    intro i hi
    refine Ev.turn (fun k => delta_Small.p0_succ k _ _ _ _ _ _) ?_
    unfold delta_Small.e0
    rw [List.drop_eq_nil_of_le (by omega)]
    exact Ev.fls (by simp; omega) (small_p4 hl h1 hM hlen w l.length 0 1 (by omega) (LQ_one' h1))
  | succ m ih =>
    intro i hi
    refine Ev.turn (fun k => delta_Small.p0_succ k _ _ _ _ _ _) ?_
    unfold delta_Small.e0
    have e : IntKind.i64.wrap ((i : Int) + 1) = ((i + 1 : Nat) : Int) := by rw [wrap_i64 (by omega) (by omega)]; omega
    simp only [e, Int.toNat_natCast]
    have g := hl.get (i := i) (by omega)
    have ih' := ih (i + 1) (by omega)
    rw [drop_consD gd (by omega), List.any_cons]
    refine Ev.tru (by simp; omega) (Ev.tru (by simp; omega) (Ev.bind (g.lo.cmp g.hi h1 (by omega)) ?_))
    by_cases hb : gbad (nthD gd l i) = true
    · rw [hb]
      exact Ev.tru (by unfold gbad at hb; simpa using hb) Ev.pure
    · rw [Bool.not_eq_true] at hb
      rw [hb, Bool.false_or]
      exact Ev.fls (by unfold gbad at hb; simpa using hb) ih'

theorem small_ev (hl : Gs M l) (h1 : 1 ≤ M) (hM : M ≤ 1000000000) (hlen : l.length ≤ 1000000000) : Ev (fun k => delta_Small.f k l) (small l) := by
  unfold delta_Small.f delta_Small.e small
  exact Ev.bind (whole_Whole_ev (n := 1) (by omega)) (small_p0 hl h1 hM hlen _ l.length 0 (by omega))

/-! ### The reference's -/
theorem foldl_LQ (h1 : 1 ≤ M) : ∀ {l : List GG} (_ : Gs M l) {o : Rat}, LQ o ≤ 19 * M → LQ (l.foldl gmin o) ≤ 19 * M
  | [], _, _, ho => ho
  | g :: _l, hl, _, ho => foldl_LQ h1 (fun x hx => hl x (List.mem_cons_of_mem _ hx)) (gmin_LQ (hl g List.mem_cons_self) h1 ho)

/-! ### Smalls -/
end

abbrev tyGap : Ty := .st (.pair tyDelta tyDelta)
theorem gaps_in {l : List GG} (hw : ∀ y ∈ l, tyGap.wf y) (hm : (l.map tyGap.mass).sum ≤ 1048576) : Gs 1048576 l ∧ l.length ≤ 1048576 := by
  have key : ∀ l : List GG, l.length ≤ (l.map tyGap.mass).sum ∧ ∀ y ∈ l, tyGap.mass y ≤ (l.map tyGap.mass).sum := by
    intro l
    induction l with
    | nil => simp
    | cons x xs ih =>
      have e1 : tyGap.mass x = tyDelta.mass x.1 + tyDelta.mass x.2 := rfl
      have e2 : tyDelta.mass x.1 = tyRat.mass x.1.1 + tyRat.mass x.1.2 := rfl
      have e3 : tyRat.mass x.1.1 = (1 + tyNat.mass x.1.1.1.2) + tyNat.mass x.1.1.2 := rfl
      simp only [List.map_cons, List.sum_cons, List.length_cons]
      refine ⟨by omega, fun y hy => ?_⟩
      rcases List.mem_cons.1 hy with h | h
      · subst h; omega
      · have := ih.2 y h; omega
  have hk := key l
  refine ⟨fun y hy => ?_, by omega⟩
  have h1 := hw y hy
  have h2 := hk.2 y hy
  have e1 : tyGap.mass y = tyDelta.mass y.1 + tyDelta.mass y.2 := rfl
  exact ⟨delta_dt (d := y.1) h1.1 (by omega), delta_dt (d := y.2) h1.2 (by omega)⟩

end Go.FK
