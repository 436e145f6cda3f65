import Derived.Test.YtjbliegkmhoffaaDoorM1

/- Tokens: the reference's look. -/
namespace Go.FK

variable {S : ByteArray} {i : Nat} {fin : Bool}
theorem w1 {n : Nat} (h : n ≤ 4294967300) : IntKind.i64.wrap ((n : Int) + 1) = ((n + 1 : Nat) : Int) := by rw [wr (by omega) (by omega)]; omega
/-! ### Bars -/
/-! ### A string -/
/-! ### Keywords, numbers, what begins with a sharp sign -/
end Go.FK


/- Tokens: gaps, places; what begins at a place ends behind it. -/
namespace Go.FK

variable {S : ByteArray}

/-! ### Gaps -/
/-! ### Places -/
def lc (S : ByteArray) : Nat → Nat × Nat
  | 0 => (1, 1)
  | i + 1 => if bt S i = 10 then ((lc S i).1 + 1, 1) else ((lc S i).1, (lc S i).2 + 1)
theorem lc_le (S : ByteArray) : ∀ i, (lc S i).1 ≤ i + 1 ∧ (lc S i).2 ≤ i + 1
  | 0 => ⟨Nat.le_refl _, Nat.le_refl _⟩
  | i + 1 => by
    have := lc_le S i
    unfold lc
    split
    · exact ⟨by simp only; omega, by simp only; omega⟩
    · exact ⟨by simp only; omega, by simp only; omega⟩
theorem lc_line {i : Nat} (h : bt S i = 10) : lc S (i + 1) = ((lc S i).1 + 1, 1) := by rw [lc, if_pos h]
theorem lc_in {i : Nat} (h : bt S i ≠ 10) : lc S (i + 1) = ((lc S i).1, (lc S i).2 + 1) := by rw [lc, if_neg h]

abbrev TK : Type := Int × ByteArray × Int × Int × Int × Int
abbrev SC : Type := Int × ByteArray × Bool × TK × Int
def plc (S : ByteArray) (i : Nat) : TK := (0, ByteArray.mk #[], (i : Int), (i : Int), ((lc S i).1 : Int), ((lc S i).2 : Int))
theorem place_loop (hS : S.size ≤ 4294967280) {a : Nat} (ha : a ≤ S.size) : ∀ m i, m + i = a → Ev (fun k => ref12_Place.p0 k ((0 : Int), ByteArray.mk #[], (0 : Int), (0 : Int), (0 : Int), (0 : Int)) ((0 : Int), ByteArray.mk #[], (a : Int), (a : Int), ((lc S i).1 : Int), ((lc S i).2 : Int)) S (a : Int) (i : Int)) (plc S a) := by
  intro m
  induction m with
  | zero =>
    intro i hi
    refine Ev.turn (fun k => ref12_Place.p0_succ k _ _ _ _ _) ?_
    unfold ref12_Place.e0
    obtain rfl : i = a := by omega
    exact Ev.fls (dec_f (by omega)) Ev.pure
  | succ m ih =>
    intro i hi
    have hl := lc_le S i
    refine Ev.turn (fun k => ref12_Place.p0_succ k _ _ _ _ _) ?_
    unfold ref12_Place.e0
    dsimp only
    rw [btI_bt S (by omega), w1 (by omega), w1 (by omega)]
    refine Ev.tru (dec_t (by omega)) (Ev.tru (by simp; omega) ?_)
    have := ih (i + 1) (by omega)
    by_cases c : bt S i = 10
    · rw [lc_line c] at this
      refine Ev.tru (dec_t c) (Ev.turn (fun k => ref12_Place.p9_succ k _ _ _ _ _) ?_)
      unfold ref12_Place.e9
      rw [w1 (by omega)]
      exact this
    · rw [lc_in c] at this
      refine Ev.fls (dec_f c) (Ev.turn (fun k => ref12_Place.p9_succ k _ _ _ _ _) ?_)
      unfold ref12_Place.e9
      rw [w1 (by omega)]
      exact this
theorem place_ev (hS : S.size ≤ 4294967280) {a : Nat} (ha : a ≤ S.size) : Ev (fun k => ref12_Place.f k S (a : Int)) (plc S a) := place_loop hS ha a 0 (by omega)

/-! ### What is there ends behind its beginning -/
variable {i : Nat} {fin : Bool}
end Go.FK
