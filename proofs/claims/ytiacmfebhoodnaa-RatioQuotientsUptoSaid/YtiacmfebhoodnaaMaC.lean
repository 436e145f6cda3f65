/- The plain law: noughts at the end, copies. -/
import Derived.Test.YtiacmfebhoodnaaMaB
namespace Go.FK

theorem norm_snoc_zero : ∀ (l : List Int), norm (l ++ [0]) = norm l
  | [] => by simp [norm]
  | x :: xs => by simp only [List.cons_append, norm, norm_snoc_zero xs]
theorem norm_snoc_ne : ∀ (l : List Int) {x : Int}, x ≠ 0 → norm (l ++ [x]) = l ++ [x]
  | [], x, h => by simp [norm, h]
  | y :: ys, x, h => by
    simp only [List.cons_append, norm, norm_snoc_ne ys h]
    cases ys <;> simp

theorem take_succ_get {a : List Int} {n : Nat} (h : n < a.length) : a.take (n + 1) = a.take n ++ [nthD 0 a n] := by
  rw [List.take_succ_eq_append_getElem h, nthD_eq, List.getD_eq_getElem?_getD]
  simp [h]

theorem trim_p9 (a : List Int) (n : Nat) (h : n ≤ a.length) : Ev (fun k => nat_trim.p9 k a (n : Int)) (a.take n) := by
  refine Ev.turn (fun k => nat_trim.p9_succ k a n) ?_
  unfold nat_trim.e9
  refine Ev.tru (by simp; omega) ?_
  have : (List.take (Int.toNat (n : Int)) a).drop (Int.toNat 0) = a.take n := by simp
  rw [this]
  exact Ev.pure

theorem trim_p0 (a : List Int) : ∀ (n : Nat), n ≤ a.length → n ≤ 9223372036854775807 → Ev (fun k => nat_trim.p0 k a (n : Int)) (norm (a.take n)) := by
  intro n
  induction n with
  | zero =>
    intro h _
    refine Ev.turn (fun k => nat_trim.p0_succ k a _) ?_
    unfold nat_trim.e0
    refine Ev.fls (by simp) ?_
    simpa [norm] using trim_p9 a 0 h
  | succ n ih =>
    intro h hb
    refine Ev.turn (fun k => nat_trim.p0_succ k a _) ?_
    unfold nat_trim.e0
    have e : IntKind.i64.wrap (((n + 1 : Nat) : Int) - 1) = (n : Int) := by rw [wrap_i64 (by omega) (by omega)]; omega
    simp only [e]
    refine Ev.tru (by simp) ?_
    refine Ev.tru (by simp; omega) ?_
    rw [take_succ_get (by omega)]
    by_cases h0 : nthD 0 a n = 0
    · refine Ev.tru (by simp [h0]) ?_
      rw [h0, norm_snoc_zero]
      exact ih (by omega) (by omega)
    · refine Ev.fls (by simp [h0]) ?_
      rw [norm_snoc_ne _ h0, ← take_succ_get (by omega)]
      exact trim_p9 a (n + 1) h

theorem trim_ev (a : List Int) (h : a.length ≤ 9223372036854775807) : Ev (fun k => nat_trim.f k a) (norm a) := by
  have := trim_p0 a a.length (Nat.le_refl _) h
  rw [List.take_length] at this
  exact this

theorem norm_length : ∀ (a : List Int), (norm a).length ≤ a.length
  | [] => Nat.le_refl _
  | x :: xs => by
    have := norm_length xs
    simp only [norm]
    split
    · split <;> simp
    · rename_i y ys e
      rw [e] at this
      simpa using this

theorem own_ev (a : List Int) (h : a.length ≤ 70368744177664) : Ev (fun k => nat_own.f k a) (norm a) := by
  unfold nat_own.f nat_own.e
  refine Ev.bind (trim_ev a (by omega)) ?_
  have hl := norm_length a
  by_cases h0 : norm a = []
  · refine Ev.tru (by simp [h0]) ?_
    rw [h0]
    exact Ev.pure
  · refine Ev.fls (by simp [h0]) ?_
    refine Ev.tru (by simp; omega) ?_
    simp
    exact Ev.pure

end Go.FK
