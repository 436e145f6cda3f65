/- tokens.Symbol: a walk, since it ranges over a text's runes. -/
import Derived.Test.YtlcdndoddcklfaaF2
import Derived.Test.YtlcdndoddcklfaaProg
import Derived.Shelf.RegionOpenPlain
import Derived.Shelf.Strings.IndexAny
import Derived.Laws.RangeAny
import Derived.Laws.RangeString
import Derived.Laws.Strings3
import Derived.Deep.LoopGhost
import Derived.Lib.DecodeN
import Derived.Lib.Walk
import Derived.Lib.Strings
import Derived.Lib.Builder
import Derived.WalkKit
namespace Go.FK
open Go.Lib

theorem get!_beyond (s : ByteArray) (i : Nat) (h : ¬ i < s.size) : (s.get! i).toNat = 0 := by
  have : s.get! i = 0 := getElem!_neg s.data i h
  rw [this]; rfl
theorem dec_high (s : ByteArray) (i : Nat) (h : i < s.size) (hb : 128 ≤ (s.get! i).toNat) :
    128 ≤ (Utf8.decode s i).1 ∧ (Utf8.decode s i).1 < 1114112 ∧ 1 ≤ (Utf8.decode s i).2 ∧ i + (Utf8.decode s i).2 ≤ s.size ∧ ∀ j, i ≤ j → j < i + (Utf8.decode s i).2 → 128 ≤ (s.get! j).toNat := by
  rw [decode_at]
  have h0 := UInt8.toNat_lt (s.get! i)
  have h1 := UInt8.toNat_lt (s.get! (i + 1))
  have h2 := UInt8.toNat_lt (s.get! (i + 2))
  have h3 := UInt8.toNat_lt (s.get! (i + 3))
  have key : ∀ n, n ≤ 4 → (1 < n → 128 ≤ (s.get! (i + 1)).toNat) → (2 < n → 128 ≤ (s.get! (i + 2)).toNat) → (3 < n → 128 ≤ (s.get! (i + 3)).toNat) → ∀ j, i ≤ j → j < i + n → 128 ≤ (s.get! j).toNat := by
    intro n hn k1 k2 k3 j hj1 hj2
    rcases (show j = i ∨ j = i + 1 ∨ j = i + 2 ∨ j = i + 3 by omega) with e | e | e | e <;> subst e
    · exact hb
    · exact k1 (by omega)
    · exact k2 (by omega)
    · exact k3 (by omega)
  generalize (s.get! i).toNat = b0 at *
  generalize (s.get! (i + 1)).toNat = b1 at *
  generalize (s.get! (i + 2)).toNat = b2 at *
  generalize (s.get! (i + 3)).toNat = b3 at *
  unfold decodeN
  rw [if_neg (by omega)]
  split
  · rename_i c
    split
    · exact ⟨by simp only; omega, by simp only; omega, by simp, by simp only; omega, key 2 (by omega) (by omega) (by omega) (by omega)⟩
    · exact ⟨by simp, by simp, by simp, by simp only; omega, key 1 (by omega) (by omega) (by omega) (by omega)⟩
  · split
    · rename_i c
      split
      · exact ⟨by simp only; omega, by simp only; omega, by simp, by simp only; omega, key 3 (by omega) (by omega) (by omega) (by omega)⟩
      · exact ⟨by simp, by simp, by simp, by simp only; omega, key 1 (by omega) (by omega) (by omega) (by omega)⟩
    · split
      · rename_i c
        split
        · exact ⟨by simp only; omega, by simp only; omega, by simp, by simp only; omega, key 4 (by omega) (by omega) (by omega) (by omega)⟩
        · exact ⟨by simp, by simp, by simp, by simp only; omega, key 1 (by omega) (by omega) (by omega) (by omega)⟩
      · exact ⟨by simp, by simp, by simp, by simp only; omega, key 1 (by omega) (by omega) (by omega) (by omega)⟩
end Go.FK

namespace Go.FK
def quotR (r : Int) : Bool := decide (128 ≤ r) || (decide (32 ≤ r) && decide (r < 127)) || decide (r = 9) || decide (r = 10) || decide (r = 13)
def okR (r : Int) : Bool := quotR r && !decide (r = 124) && !decide (r = 92)
def symAll (s : ByteArray) : Nat → Bool
  | 0 => true
  | n + 1 => symAll s n && okR ((s.get! n).toNat : Int)
theorem symAll_succ (s : ByteArray) (n : Nat) : symAll s (n + 1) = (symAll s n && okR ((s.get! n).toNat : Int)) := rfl
theorem symAll_ext (s : ByteArray) (i : Nat) (h : symAll s i = true) : ∀ n, (∀ j, i ≤ j → j < i + n → okR ((s.get! j).toNat : Int) = true) → symAll s (i + n) = true
  | 0, _ => h
  | n + 1, hj => by
    rw [← Nat.add_assoc, symAll_succ, symAll_ext s i h n (fun j h1 h2 => hj j h1 (by omega)), hj (i + n) (by omega) (by omega)]
    rfl
theorem symAll_bad (s : ByteArray) (i : Nat) (h : okR ((s.get! i).toNat : Int) = false) : ∀ n, symAll s (i + 1 + n) = false
  | 0 => by rw [Nat.add_zero, symAll_succ, h, Bool.and_false]
  | n + 1 => by rw [← Nat.add_assoc, symAll_succ, symAll_bad s i h n]; rfl
theorem okR_high {r : Int} (h : 128 ≤ r) : okR r = true := by
  unfold okR quotR
  rw [decide_eq_true h, decide_eq_false (show ¬ r = 124 by omega), decide_eq_false (show ¬ r = 92 by omega)]
  rfl
theorem step_rune (s : ByteArray) (i : Nat) (h : i < s.size) : (Utf8.decode s i).1 < 1114112 ∧ 1 ≤ (Utf8.decode s i).2 ∧ i + (Utf8.decode s i).2 ≤ s.size ∧
    (okR ((Utf8.decode s i).1 : Int) = true → ∀ j, i ≤ j → j < i + (Utf8.decode s i).2 → okR ((s.get! j).toNat : Int) = true) ∧
    (okR ((Utf8.decode s i).1 : Int) = false → okR ((s.get! i).toNat : Int) = false) := by
  by_cases hb : 128 ≤ (s.get! i).toNat
  · obtain ⟨h1, h2, h3, h4, h5⟩ := dec_high s i h hb
    exact ⟨h2, h3, h4, fun _ j hj1 hj2 => okR_high (by have := h5 j hj1 hj2; omega), fun hf => by rw [okR_high (by omega)] at hf; cases hf⟩
  · have e : Utf8.decode s i = ((s.get! i).toNat, 1) := by
      rw [Go.Lib.decode_at]
      unfold Go.Lib.decodeN
      rw [if_pos (by omega)]
    rw [e]
    have := UInt8.toNat_lt (s.get! i)
    refine ⟨by simp only; omega, by simp, by simp only; omega, fun ht j hj1 hj2 => ?_, fun hf => hf⟩
    simp only at hj2
    obtain rfl : j = i := by omega
    exact ht
def bars (s : ByteArray) : ByteArray := (ByteArray.mk #[124] ++ s) ++ ByteArray.mk #[124]
def symR (pl : Bool) (s : ByteArray) : ByteArray × Int := if pl then (s, 0) else if symAll s s.size then (bars s, 0) else (ByteArray.mk #[], 122)
def symF (p : Option Bool) (s : ByteArray) : Option (ByteArray × Int) := bif decide (s.size ≤ 1000000000000) then (match p with | some b => some (symR b s) | none => none) else none
end Go.FK
namespace Go.Proofs.Ytlcdndoddcklfaa
open Go.Shelf Go.RowKit Go.Lib

set_option maxHeartbeats 4000000 in
theorem quot_walk (r : Int) (w : World) : Calls Try.prog 10 #[.int .i32 r] w fun e w' => e = .returned (.bool (Go.FK.quotR r)) ∧ w' = w := by
  have t4 := Try.underlying4; have a4 := Try.isAgg4; have z4 := Try.sizeOf4; have v4 := Try.zeroValue4
  have t21 := Try.underlying21; have a21 := Try.isAgg21; have z21 := Try.sizeOf21; have v21 := Try.zeroValue21
  by_cases c1 : (128 : Int) ≤ r
  · have hq : Go.FK.quotR r = true := by unfold Go.FK.quotR; rw [decide_eq_true c1]; rfl
    rw [hq]
    go_enter Try.func10, (show Try.f10.ntmps = 25 from rfl)
    go_wp2
    go_ret
    exact ⟨rfl, rfl⟩
  by_cases c2 : (32 : Int) ≤ r
  · by_cases c3 : r < 127
    · have hq : Go.FK.quotR r = true := by unfold Go.FK.quotR; rw [decide_eq_true c2, decide_eq_true c3]; simp
      rw [hq]
      go_enter Try.func10, (show Try.f10.ntmps = 25 from rfl)
      go_wp2
      go_ret
      exact ⟨rfl, rfl⟩
    · have hr : r = 127 := by omega
      subst hr
      go_enter Try.func10, (show Try.f10.ntmps = 25 from rfl)
      go_wp2
      go_ret
      exact ⟨rfl, rfl⟩
  · by_cases h9 : r = 9
    · subst h9
      go_enter Try.func10, (show Try.f10.ntmps = 25 from rfl)
      go_wp2
      go_ret
      exact ⟨rfl, rfl⟩
    by_cases h10 : r = 10
    · subst h10
      go_enter Try.func10, (show Try.f10.ntmps = 25 from rfl)
      go_wp2
      go_ret
      exact ⟨rfl, rfl⟩
    by_cases h13 : r = 13
    · subst h13
      go_enter Try.func10, (show Try.f10.ntmps = 25 from rfl)
      go_wp2
      go_ret
      exact ⟨rfl, rfl⟩
    have hq : Go.FK.quotR r = false := by
      unfold Go.FK.quotR
      rw [decide_eq_false c1, decide_eq_false c2, decide_eq_false h9, decide_eq_false h10, decide_eq_false h13]; rfl
    have b9 : (r == 9) = false := beq_eq_false_iff_ne.2 h9
    have b10 : (r == 10) = false := beq_eq_false_iff_ne.2 h10
    have b13 : (r == 13) = false := beq_eq_false_iff_ne.2 h13
    rw [hq]
    go_enter Try.func10, (show Try.f10.ntmps = 25 from rfl)
    go_wp2
    go_ret
    exact ⟨rfl, rfl⟩

set_option maxHeartbeats 8000000 in
set_option maxRecDepth 1000000 in
theorem symbol_walk (s : ByteArray) (w : World) (pl : Bool) (hs : s.size ≤ 1000000000000)
    (hP : Calls Try.prog 6 #[.string s] w fun e w' => e = .returned (.bool pl) ∧ Below w.heap.size w w') :
    Calls Try.prog 4 #[.string s] w fun e w' => e = .returned (.tuple #[.string (Go.FK.symR pl s).1, .int .i64 (Go.FK.symR pl s).2]) ∧ Below w.heap.size w w' := by
  have t3 := Try.underlying3; have a3 := Try.isAgg3; have z3 := Try.sizeOf3; have v3 := Try.zeroValue3
  have t4 := Try.underlying4; have a4 := Try.isAgg4; have z4 := Try.sizeOf4; have v4 := Try.zeroValue4
  have t9 := Try.underlying9; have a9 := Try.isAgg9; have z9 := Try.sizeOf9; have v9 := Try.zeroValue9
  have t21 := Try.underlying21; have a21 := Try.isAgg21; have z21 := Try.sizeOf21; have v21 := Try.zeroValue21
  have t22 := Try.underlying22; have a22 := Try.isAgg22; have z22 := Try.sizeOf22; have v22 := Try.zeroValue22
  have eP : ∀ args w, (callFunc 6 args).run Try.prog w = .ok (.enter 6 args) w := enters_of Try.func6 (by kernel_rfl) rfl
  have eQ : ∀ args w, (callFunc 10 args).run Try.prog w = .ok (.enter 10 args) w := enters_of Try.func10 (by kernel_rfl) rfl
  cases pl with
  | true =>
    go_enter Try.func4, (show Try.f4.ntmps = 28 from rfl)
    go_wp2_with (go_at_fn 6; refine hP.mono ?_; rintro e w' ⟨rfl, hw⟩)
    go_ret2
    exact ⟨rfl, hw⟩
  | false =>
    go_enter Try.func4, (show Try.f4.ntmps = 28 from rfl)
    go_wp2_with (go_at_fn 6; refine hP.mono ?_; rintro e w1 ⟨rfl, hw⟩)
    have HW : Aside (Below w.heap.size w w1) := hw
    clear hw
    go_loopg [5] s.size (fun g _ wx => ∃ i : Nat, i + g = s.size ∧ wx = w1.iter s i ∧ Go.FK.symAll s i = true)
    case atStart => exact ⟨0, by omega, rfl, rfl⟩
    case round =>
      obtain ⟨i, hig, rfl, hall⟩ := hrel
      have HA : Aside (Go.FK.symAll s i = true) := hall
      clear hall
      have hbelow : Aside (∀ j, Below w.heap.size w (w1.iter s j)) := fun j => HW.out.alloc HW.out.size _
      by_cases hi : i < s.size
      · obtain ⟨k1, k2, k3, k4, k5⟩ := Go.FK.step_rune s i hi
        have hnx := fun ty => run_next_any (P := Try.prog) w1 s i ty hi
        have K : Aside (i + (Utf8.decode s i).2 ≤ s.size ∧ 1 ≤ (Utf8.decode s i).2) := ⟨k3, k2⟩
        have K4 : Aside (Go.FK.okR ((Utf8.decode s i).1 : Int) = true → ∀ j, i ≤ j → j < i + (Utf8.decode s i).2 → Go.FK.okR ((s.get! j).toNat : Int) = true) := k4
        have K5 : Aside (Go.FK.okR ((Utf8.decode s i).1 : Int) = false → Go.FK.okR ((s.get! i).toNat : Int) = false) := k5
        clear k1 k2 k3 k4 k5
        generalize hr : (Utf8.decode s i).1 = r at *
        generalize hn : (Utf8.decode s i).2 = n at *
        have hbad : Aside (Go.FK.okR (r : Int) = false → Go.FK.symR false s = (ByteArray.mk #[], 122)) := fun h => by
          have h2 := Go.FK.symAll_bad s i (K5.out h) (s.size - (i + 1))
          rw [show i + 1 + (s.size - (i + 1)) = s.size by omega] at h2
          unfold Go.FK.symR
          rw [h2]; rfl
        have hgood : Aside (Go.FK.okR (r : Int) = true → Go.FK.symAll s (i + n) = true) := fun h => Go.FK.symAll_ext s i HA.out n (K4.out h)
        cases hq : Go.FK.quotR (r : Int) with
        | false =>
          have hok : Go.FK.okR (r : Int) = false := by unfold Go.FK.okR; rw [hq]; rfl
          have HB : Aside (Go.FK.symR false s = (ByteArray.mk #[], 122)) := hbad.out hok
          clear hbad hgood hok
          go_wp2_with (go_at_fn 10; refine (quot_walk (r : Int) _).mono ?_; rintro e w' ⟨rfl, hw⟩; rw [hw, hq])
          go_ret2
          exact ⟨by rw [HB.out]; rfl, hbelow.out _⟩
        | true =>
          by_cases c1 : (r : Int) = 124
          · have hok : Go.FK.okR (r : Int) = false := by unfold Go.FK.okR; rw [decide_eq_true c1]; simp
            have HB : Aside (Go.FK.symR false s = (ByteArray.mk #[], 122)) := hbad.out hok
            clear hbad hgood hok
            have e1 : ((r : Int) == 124) = true := beq_iff_eq.2 c1
            clear c1
            go_wp2_with (go_at_fn 10; refine (quot_walk (r : Int) _).mono ?_; rintro e w' ⟨rfl, hw⟩; rw [hw, hq])
            go_ret2
            exact ⟨by rw [HB.out]; rfl, hbelow.out _⟩
          have e1 : ((r : Int) == 124) = false := beq_eq_false_iff_ne.2 c1
          by_cases c2 : (r : Int) = 92
          · have hok : Go.FK.okR (r : Int) = false := by unfold Go.FK.okR; rw [decide_eq_true c2]; simp
            have HB : Aside (Go.FK.symR false s = (ByteArray.mk #[], 122)) := hbad.out hok
            clear hbad hgood hok
            have e2 : ((r : Int) == 92) = true := beq_iff_eq.2 c2
            clear c1 c2
            go_wp2_with (go_at_fn 10; refine (quot_walk (r : Int) _).mono ?_; rintro e w' ⟨rfl, hw⟩; rw [hw, hq])
            go_ret2
            exact ⟨by rw [HB.out]; rfl, hbelow.out _⟩
          have e2 : ((r : Int) == 92) = false := beq_eq_false_iff_ne.2 c2
          have hok : Go.FK.okR (r : Int) = true := by unfold Go.FK.okR; rw [hq, decide_eq_false c1, decide_eq_false c2]; rfl
          have HG : Aside (Go.FK.symAll s (i + n) = true) := hgood.out hok
          clear hbad hgood hok c1 c2
          go_wp2_with (go_at_fn 10; refine (quot_walk (r : Int) _).mono ?_; rintro e w' ⟨rfl, hw⟩; rw [hw, hq])
          go_roundg (s.size - (i + n))
          case measure => have := K.out; omega
          case rel => exact ⟨i + n, by have := K.out; omega, rfl, HG.out⟩
      · obtain rfl : i = s.size := by omega
        have hnx := fun ty => run_next_end (P := Try.prog) w1 s s.size ty hi
        have hb1 : (((ByteArray.mk #[124]).size + s.size : Nat) : Int) ≤ 9223372036854775807 := by have : (ByteArray.mk #[124]).size = 1 := rfl; omega
        have hb2 : (((ByteArray.mk #[124] ++ s).size + (ByteArray.mk #[124]).size : Nat) : Int) ≤ 9223372036854775807 := by rw [ByteArray.size_append]; have : (ByteArray.mk #[124]).size = 1 := rfl; omega
        go_wp2
        go_ret2
        exact ⟨by unfold Go.FK.symR; rw [HA.out]; rfl, hbelow.out _⟩

open Go.FK in
theorem symbol_contract {Pf : ByteArray → Option Bool} (cP : Contract Try.prog 6 ⟨[.str], [.bool], fun (x : ByteArray) => Pf x⟩) :
    Contract Try.prog 4 ⟨[.str], [.str, .int .i64], fun (x : ByteArray) => symF (Pf x) x⟩ := by
  intro x r hx M w vs hM hgl hvs
  have hr : symF (Pf x) x = some r := hx
  unfold symF at hr
  cases hc : decide ((x : ByteArray).size ≤ 1000000000000) with
  | false => rw [hc] at hr; cases hr
  | true =>
    rw [hc] at hr
    simp only [cond_true] at hr
    cases hp : Pf x with
    | none => rw [hp] at hr; cases hr
    | some b =>
      rw [hp] at hr
      simp only [Option.some.injEq] at hr
      match vs, hvs with
      | [u], hu =>
        have e1 : u = .string x := repV_str hu.1
        subst e1
        have hcall : Calls Try.prog 6 #[.string x] w fun e w' => e = .returned (.bool b) ∧ Below w.heap.size w w' := by
          rcases cP x b hp M w [.string x] hM hgl ⟨hu.1, trivial⟩ with ⟨_, h⟩ | ⟨v, w', h4⟩
          · refine Calls.mono h ?_
            rintro e w' ⟨us, h1, h2, h3⟩
            match us, h2 with
            | [v], h2 =>
              have e2 : v = .bool b := repV_bool h2.1
              subst e2
              exact ⟨h1, h3⟩
          · have h5 := enters_of (P := Try.prog) Try.func6 (by kernel_rfl) rfl #[.string x] w
            exact absurd (h5.symm.trans h4.1) (by intro h; cases h)
        left
        refine ⟨by kernel_rfl, ?_⟩
        refine Calls.mono (symbol_walk x w b (of_decide_eq_true hc) hcall) ?_
        rintro e w' ⟨he, hb⟩
        exact ⟨[.string r.1, .int .i64 r.2], by rw [he, hr]; rfl, ⟨str_repV _ _ _, int_repV _ _ _ _, trivial⟩, hb⟩
end Go.Proofs.Ytlcdndoddcklfaa
