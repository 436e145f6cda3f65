import Derived.Test.YtjbliegkmhoffaaDoorM2
import Derived.Test.YtjbliegkmhoffaaDoorF3

/- Tokens: a text's tokens, by the program and by the reference; the same of a text that comes in pieces. -/
namespace Go.FK

variable {S : ByteArray} {fin : Bool}
/-! ### The program's tell -/
/-! ### The reference's Read -/
/-! ### More of a text -/
section
variable {T : ByteArray} {n : Nat}
variable {i : Nat} {b : Bool}
end

end Go.FK


/- Tokens: TokensNobody. -/
namespace Go.FK

abbrev zS : SC := ((0 : Int), ByteArray.mk #[], false, ((0 : Int), ByteArray.mk #[], (0 : Int), (0 : Int), (0 : Int), (0 : Int)), (0 : Int))
theorem nb_place : Ev (fun k => ref12_Place.f k (ByteArray.mk #[]) (0 : Int)) ((0 : Int), ByteArray.mk #[], (0 : Int), (0 : Int), (1 : Int), (1 : Int)) := place_ev (S := ByteArray.mk #[]) (by decide) (a := 0) (Nat.zero_le _)
theorem nb_ans : Ev (fun k => tokens_Scanner_answers.f k zS) (zS, (1 : Int), true) := by
  unfold tokens_Scanner_answers.f tokens_Scanner_answers.e
  exact Ev.tru rfl (Ev.turn (fun k => tokens_Scanner_answers.p5_succ k _) Ev.pure)
theorem nb_feed (P : ByteArray) : Ev (fun k => tokens_Scanner_Feed.f k zS P) (zS, [], (1 : Int)) := by
  unfold tokens_Scanner_Feed.f tokens_Scanner_Feed.e
  exact Ev.bind nb_ans (Ev.tru rfl Ev.pure)
theorem nb_end : Ev (fun k => tokens_Scanner_End.f k zS) (zS, [], (1 : Int)) := by
  unfold tokens_Scanner_End.f tokens_Scanner_End.e
  exact Ev.bind nb_ans (Ev.tru rfl Ev.pure)
theorem nb_begin : Ev (fun k => tokens_begin.f k ()) ((0 : Int), ByteArray.mk #[], (0 : Int), (0 : Int), (1 : Int), (1 : Int)) := ⟨0, fun _ _ => rfl⟩
theorem nb_at : Ev (fun k => tokens_Scanner_At.f k zS) (zS, (0 : Int), ByteArray.mk #[], (0 : Int), (0 : Int), (1 : Int), (1 : Int)) := by
  unfold tokens_Scanner_At.f tokens_Scanner_At.e
  exact Ev.tru rfl (Ev.bind nb_begin Ev.pure)
theorem nn_ans : Ev (fun k => tokens_Scanner_answers_nil.f k ()) ((1 : Int), true) := ⟨0, fun _ _ => rfl⟩
theorem nn_feed (P : ByteArray) : Ev (fun k => tokens_Scanner_Feed_nil.f k () P) ([], (1 : Int)) := by
  unfold tokens_Scanner_Feed_nil.f tokens_Scanner_Feed_nil.e
  exact Ev.bind nn_ans (Ev.tru rfl Ev.pure)
theorem nn_end : Ev (fun k => tokens_Scanner_End_nil.f k ()) ([], (1 : Int)) := by
  unfold tokens_Scanner_End_nil.f tokens_Scanner_End_nil.e
  exact Ev.bind nn_ans (Ev.tru rfl Ev.pure)
theorem nn_at : Ev (fun k => tokens_Scanner_At_nil.f k ()) ((0 : Int), ByteArray.mk #[], (0 : Int), (0 : Int), (1 : Int), (1 : Int)) := by
  unfold tokens_Scanner_At_nil.f tokens_Scanner_At_nil.e
  exact Ev.bind nb_begin Ev.pure
theorem nobody_loop (S : ByteArray) : ∀ m i : Nat, m + i = 2 → Ev (fun k => law12_TokensNobody.p0 k S (i : Int)) true := by
  intro m
  induction m with
  | zero =>
    intro i hi
    refine Ev.turn (fun k => law12_TokensNobody.p0_succ k _ _) ?_
    unfold law12_TokensNobody.e0
    exact Ev.fls (dec_f (by omega)) Ev.pure
  | succ m ih =>
    intro i hi
    refine Ev.turn (fun k => law12_TokensNobody.p0_succ k _ _) ?_
    unfold law12_TokensNobody.e0
    have h9 : Ev (fun k => law12_TokensNobody.p9 k S (i : Int)) true := by
      refine Ev.turn (fun k => law12_TokensNobody.p9_succ k _ _) ?_
      unfold law12_TokensNobody.e9
      rw [w1 (by omega)]
      exact ih (i + 1) (by omega)
    refine Ev.tru (dec_t (by omega)) ?_
    by_cases c : i = 1
    · exact Ev.tru (dec_t (by omega)) (Ev.bind (nb_feed S) (Ev.bind nb_end (Ev.fls rfl (Ev.fls rfl (Ev.fls rfl (Ev.bind nb_at (Ev.bind nb_place (Ev.fls (by rw [toList_beq]; rfl) h9))))))))
    · exact Ev.fls (dec_f (by omega)) (Ev.bind (nn_feed S) (Ev.bind nn_end (Ev.fls rfl (Ev.fls rfl (Ev.fls rfl (Ev.bind nn_at (Ev.bind nb_place (Ev.fls (by rw [toList_beq]; rfl) h9))))))))
theorem nobody_math (x : TD [.str]) (_hw : wfDs (encT [.str] x)) (_hm : massDs (encT [.str] x) ≤ 1048576) : ∃ k, law12_TokensNobody.f k x = some true := (nobody_loop (show ByteArray from x) 2 0 rfl).some

end Go.FK
