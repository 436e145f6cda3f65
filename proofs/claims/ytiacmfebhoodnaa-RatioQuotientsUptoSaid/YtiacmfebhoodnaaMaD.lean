/- The plain law: copies element by element. -/
import Derived.Test.YtiacmfebhoodnaaMaC
namespace Go.FK

/-- A row whose first n elements have been copied. -/
theorem copy_p0 (a : List Int) (hb : a.length ≤ 9223372036854775806) : ∀ (m n : Nat), m + n = a.length → ∀ (o : List Int), o.length = a.length → (∀ i, i < n → nthD 0 o i = nthD 0 a i) → Ev (fun k => law03_nat.p0 k o a (n : Int)) a := by
  intro m
  induction m with
  | zero =>
    intro n hn o ho hc
    refine Ev.turn (fun k => law03_nat.p0_succ k o a n) ?_
    unfold law03_nat.e0
    refine Ev.fls (by simp; omega) ?_
    have : o = a := by
      apply List.ext_getElem ho
      intro i h1 h2
      have := hc i (by omega)
      rw [nthD_eq, nthD_eq, List.getD_eq_getElem?_getD, List.getD_eq_getElem?_getD] at this
      simpa [h1, h2] using this
    rw [this]
    exact Ev.pure
  | succ m ih =>
    intro n hn o ho hc
    refine Ev.turn (fun k => law03_nat.p0_succ k o a n) ?_
    unfold law03_nat.e0
    refine Ev.tru (by simp; omega) (Ev.tru (by simp; omega) (Ev.tru (by simp; omega) ?_))
    have e : IntKind.i64.wrap ((n : Int) + 1) = ((n + 1 : Nat) : Int) := by rw [wrap_i64 (by omega) (by omega)]; omega
    simp only [e, Int.toNat_natCast]
    refine ih (n + 1) (by omega) _ (by rw [length_setN]; exact ho) fun i hi => ?_
    rw [nthD_setN]
    by_cases h : n = i
    · subst h; rw [if_pos ⟨rfl, by omega⟩]
    · rw [if_neg (fun h' => h h'.1)]
      exact hc i (by omega)

theorem law03_nat_ev (a : List Int) (h : a.length ≤ 70368744177664) : Ev (fun k => law03_nat.f k a) a := by
  unfold law03_nat.f law03_nat.e
  refine Ev.tru (by simp; omega) ?_
  exact copy_p0 a (by omega) a.length 0 (by omega) _ (by simp) fun i hi => by omega

end Go.FK
