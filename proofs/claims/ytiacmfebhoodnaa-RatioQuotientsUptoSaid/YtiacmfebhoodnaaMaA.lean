/- The plain law, first part: 'from some fuel on', bounded numbers, lists by place. -/
import Derived.Test.YtiacmfebhoodnaaPl
namespace Go.FK

/-- From some fuel on the function answers so. -/
def Ev {α : Type} (f : Nat → Option α) (r : α) : Prop := ∃ K, ∀ k, K ≤ k → f k = some r

theorem Ev.pure {α : Type} {r : α} : Ev (fun _ => some r) r := ⟨0, fun _ _ => rfl⟩

theorem Ev.bind {α β : Type} {f : Nat → Option α} {r : α} (h : Ev f r) {g : Nat → α → Option β} {s : β} (hg : Ev (fun k => g k r) s) : Ev (fun k => Option.bind (f k) fun x => g k x) s := by
  obtain ⟨K, hK⟩ := h
  obtain ⟨L, hL⟩ := hg
  refine ⟨max K L, fun k hk => ?_⟩
  simp only [hK k (by omega), Option.bind_some]
  exact hL k (by omega)

/-- One turn: the point's function with one more fuel. -/
theorem Ev.turn {α : Type} {f g : Nat → Option α} {r : α} (h : ∀ k, f (k + 1) = g k) (hg : Ev g r) : Ev f r := by
  obtain ⟨K, hK⟩ := hg
  refine ⟨K + 1, fun k hk => ?_⟩
  obtain ⟨j, rfl⟩ : ∃ j, k = j + 1 := ⟨k - 1, by omega⟩
  rw [h]
  exact hK j (by omega)

theorem Ev.tru {α : Type} {c : Bool} {f g : Nat → Option α} {r : α} (hc : c = true) (h : Ev f r) : Ev (fun k => bif c then f k else g k) r := by subst hc; exact h
theorem Ev.fls {α : Type} {c : Bool} {f g : Nat → Option α} {r : α} (hc : c = false) (h : Ev g r) : Ev (fun k => bif c then f k else g k) r := by subst hc; exact h
theorem Ev.some {α : Type} {f : Nat → Option α} {r : α} (h : Ev f r) : ∃ k, f k = Option.some r := ⟨h.choose, h.choose_spec _ (Nat.le_refl _)⟩
theorem Ev.cong {α : Type} {f g : Nat → Option α} {r : α} (h : ∀ k, f k = g k) (hg : Ev g r) : Ev f r := by
  obtain ⟨K, hK⟩ := hg
  exact ⟨K, fun k hk => by rw [h]; exact hK k hk⟩

/-! ### Numbers -/
theorem wrap_i64 {n : Int} (h1 : -9223372036854775808 ≤ n) (h2 : n ≤ 9223372036854775807) : IntKind.i64.wrap n = n := by
  have e : IntKind.i64.wrap n = if n % 18446744073709551616 ≥ 9223372036854775808 then n % 18446744073709551616 - 18446744073709551616 else n % 18446744073709551616 := by
    simp [IntKind.wrap, IntKind.signed, IntKind.bits]
  rw [e]
  split <;> omega

theorem wrap_u32 (n : Int) : IntKind.u32.wrap n = n % 4294967296 := by simp [IntKind.wrap, IntKind.signed, IntKind.bits]
theorem wrap_u64 (n : Int) : IntKind.u64.wrap n = n % 18446744073709551616 := by simp [IntKind.wrap, IntKind.signed, IntKind.bits]

end Go.FK
