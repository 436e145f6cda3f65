/- strings.LastIndexAny of a text longer than 8 bytes, by the shelf's contracts of its set. Tryz @..@ are filled by li.py. -/
import Derived.Shelf.Strings.IndexAny
import Derived.Shelf.Strings.AsciiSet
import Derived.Lib.Builder
import Derived.Test.YtfalcbkhleobdaaGreatDoorF2
import Derived.Test.YtfalcbkhleobdaaGreatDoorProg
namespace Go.Proofs
open Go.Shelf
def Tryz.liR : Go.Shelf.Ren := ⟨fun | 226 => 100 | 227 => 101 | 228 => 102 | n => n, fun | 116 => 100 | 124 => 126 | n => n, fun n => n⟩
theorem Tryz.l226 : Go.Proofs.Lays.n226 Tryz.prog Tryz.liR := {
  mixed := by kernel_rfl
  f226 := Tryz.func100.trans (congrArg some (by kernel_rfl))
  t3 := Tryz.underlying3
  a3 := Tryz.isAgg3
  z3 := Tryz.sizeOf3
  v3 := Tryz.zeroValue3
  t4 := Tryz.underlying4
  a4 := Tryz.isAgg4
  z4 := Tryz.sizeOf4
  v4 := Tryz.zeroValue4 }
theorem Tryz.l227 : Go.Proofs.Lays.n227 Tryz.prog Tryz.liR := {
  mixed := by kernel_rfl
  f227 := Tryz.func101.trans (congrArg some (by kernel_rfl))
  t0 := Tryz.underlying0
  a0 := Tryz.isAgg0
  z0 := Tryz.sizeOf0
  v0 := Tryz.zeroValue0
  t3 := Tryz.underlying3
  a3 := Tryz.isAgg3
  z3 := Tryz.sizeOf3
  v3 := Tryz.zeroValue3
  t4 := Tryz.underlying4
  a4 := Tryz.isAgg4
  z4 := Tryz.sizeOf4
  v4 := Tryz.zeroValue4
  t5 := Tryz.underlying5
  a5 := Tryz.isAgg5
  z5 := Tryz.sizeOf5
  v5 := Tryz.zeroValue5
  t9 := Tryz.underlying9
  a9 := Tryz.isAgg9
  z9 := Tryz.sizeOf9
  v9 := Tryz.zeroValue9
  t116 := Tryz.underlying100
  a116 := Tryz.isAgg100
  z116 := Tryz.sizeOf100 }
theorem Tryz.l228 : Go.Proofs.Lays.n228 Tryz.prog Tryz.liR := {
  mixed := by kernel_rfl
  f228 := Tryz.func102.trans (congrArg some (by kernel_rfl))
  t0 := Tryz.underlying0
  a0 := Tryz.isAgg0
  z0 := Tryz.sizeOf0
  v0 := Tryz.zeroValue0
  t4 := Tryz.underlying4
  a4 := Tryz.isAgg4
  z4 := Tryz.sizeOf4
  v4 := Tryz.zeroValue4
  t5 := Tryz.underlying5
  a5 := Tryz.isAgg5
  z5 := Tryz.sizeOf5
  v5 := Tryz.zeroValue5
  t116 := Tryz.underlying100
  a116 := Tryz.isAgg100
  z116 := Tryz.sizeOf100
  t124 := Tryz.underlying126
  a124 := Tryz.isAgg126
  z124 := Tryz.sizeOf126
  v124 := Tryz.zeroValue126 }
end Go.Proofs
namespace Go.FK
/-- The last place below n where s holds one of the bytes; -1 where none does. -/
def lastAny (s chars : ByteArray) : Nat → Int
  | 0 => -1
  | n + 1 => if chars.data.toList.contains (s.get! n) then (n : Int) else lastAny s chars n
def lastC (s c : ByteArray) : Bool := decide (8 < s.size) && decide (s.size < 4294967281) && decide (2 ≤ c.size) && decide (c.size < 4294967281) && c.data.toList.all (fun b => decide (b.toNat < 128))
def lastF (s c : ByteArray) (o : Option Int) : Option Int := bif lastC s c then some (lastAny s c s.size) else o
theorem lastAny_succ (s chars : ByteArray) (n : Nat) : lastAny s chars (n + 1) = if chars.data.toList.contains (s.get! n) then (n : Int) else lastAny s chars n := rfl
end Go.FK
namespace Go.Proofs.YtfalcbkhleobdaaGreatDoor
open Go.Shelf Go.RowKit Go.Lib

set_option maxHeartbeats 8000000 in
set_option maxRecDepth 1000000 in
theorem last_long (s chars : ByteArray) (w : World) (h2 : 2 ≤ chars.size) (h8 : 8 < s.size) (hs : s.size < 4294967281) (hcs : chars.size < 4294967281)
    (hascii : ∀ (j : Nat) b, chars.data.toList[j]? = some b → b.toNat < 128) :
    Calls Tryz.prog 63 #[.string s, .string chars] w fun e w' => e = .returned (.int .i64 (Go.FK.lastAny s chars s.size)) ∧ w' = ((w.alloc (.cells (Lib.setCells chars.data.toList) 100)).alloc (.cells (Lib.setCells chars.data.toList) 100)) := by
  have h116 : (Tryz.prog.info? 100).map (fun i => (i.zero, i.size)) = some (some (.agg (Array.replicate 256 (.bool false))), 256) := by kernel_rfl
  have hv116 := (zero_of_info h116).1
  have hi116 := (zero_of_info h116).2
  have hM : Calls Tryz.prog 101 #[.string chars] w fun e w' => e = .returned (.tuple #[.agg (Lib.setCells chars.data.toList), .bool true]) ∧ w' = w.alloc (.cells (Lib.setCells chars.data.toList) 100) := Any.strings_makeASCIISet Tryz.l227 hv116 hi116 chars w hcs hascii
  clear hascii
  have hemp : chars.toList.isEmpty = false := by
    rw [Lib.toList_data]
    cases h : chars.data.toList with
    | nil => have := Lib.size_eq chars; rw [h, List.length_nil] at this; omega
    | cons _ _ => rfl
  have hn1 : ((s.size : Int) == 1) = false := beq_eq_false_iff_ne.2 (by omega)
  have h8z : decide ((8 : Int) < (s.size : Int)) = true := decide_eq_true (by omega)
  have hsc : (storeCells ⟨w.heap.size + 1, 0, none⟩ (Lib.setCells chars.data.toList).toList 0).run Tryz.prog ((w.alloc (.cells (Lib.setCells chars.data.toList) 100)).alloc (.cells (Array.replicate 256 (.bool false)) 100)) = .ok () ((w.alloc (.cells (Lib.setCells chars.data.toList) 100)).alloc (.cells (Lib.setCells chars.data.toList) 100)) := by
    have := run_storeCells_new (P := Tryz.prog) (w.alloc (.cells (Lib.setCells chars.data.toList) 100)) 100 (Array.replicate 256 (.bool false)) (Lib.setCells chars.data.toList) (by rw [Lib.setCells_size]; exact hi116) (by rw [Lib.setCells_size, Array.size_replicate]) (Lib.setCells_one _)
    simpa using this
  have hsz := Lib.setCells_size chars.data.toList
  have hcellAt : ∀ x : UInt8, ((w.alloc (.cells (Lib.setCells chars.data.toList) 100)).alloc (.cells (Lib.setCells chars.data.toList) 100)).cell? ⟨w.heap.size + 1, x.toNat, none⟩ = some (.bool (chars.data.toList.contains x)) := fun x => by
    rw [World.cell?_alloc_at _ _ _ _ (by simp), Lib.setCells_at]
  have HC : Aside (∀ x : UInt8, ((w.alloc (.cells (Lib.setCells chars.data.toList) 100)).alloc (.cells (Lib.setCells chars.data.toList) 100)).cell? ⟨w.heap.size + 1, x.toNat, none⟩ = some (.bool (chars.data.toList.contains x))) := hcellAt
  clear hcellAt
  have t3 := Tryz.underlying3; have a3 := Tryz.isAgg3; have z3 := Tryz.sizeOf3; have v3 := Tryz.zeroValue3
  have t4 := Tryz.underlying4; have a4 := Tryz.isAgg4; have z4 := Tryz.sizeOf4; have v4 := Tryz.zeroValue4
  have t5 := Tryz.underlying5; have a5 := Tryz.isAgg5; have z5 := Tryz.sizeOf5; have v5 := Tryz.zeroValue5
  have t9 := Tryz.underlying9; have a9 := Tryz.isAgg9; have z9 := Tryz.sizeOf9; have v9 := Tryz.zeroValue9
  have t21 := Tryz.underlying21; have a21 := Tryz.isAgg21; have z21 := Tryz.sizeOf21; have v21 := Tryz.zeroValue21
  have t116 := Tryz.underlying100
  have e226 : ∀ args w, (callFunc 100 args).run Tryz.prog w = .ok (.enter 100 args) w := enters_of Tryz.func100 (by kernel_rfl) rfl
  have e227 : ∀ args w, (callFunc 101 args).run Tryz.prog w = .ok (.enter 101 args) w := enters_of Tryz.func101 (by kernel_rfl) rfl
  have e228 : ∀ args w, (callFunc 102 args).run Tryz.prog w = .ok (.enter 102 args) w := enters_of Tryz.func102 (by kernel_rfl) rfl
  go_enter Tryz.func63, (show Tryz.f63.ntmps = 96 from rfl)
  go_wp2_with (first
    | (go_at_fn 100; refine Calls.mono (show Calls Tryz.prog 100 _ _ _ from Any.strings_shouldUseASCIISet Tryz.l226 _ _) ?_; rintro e w' ⟨rfl, hw⟩; rw [hw, h8z])
    | (go_at_fn 101; refine hM.mono ?_; rintro e w' ⟨rfl, hw⟩; rw [hw]))
  clear hM hsc
  go_loopg [8] s.size (fun g s8 wx => s8 = .int .i64 ((g : Int) - 1) ∧ g ≤ s.size ∧ wx = ((w.alloc (.cells (Lib.setCells chars.data.toList) 100)).alloc (.cells (Lib.setCells chars.data.toList) 100)) ∧ Go.FK.lastAny s chars s.size = Go.FK.lastAny s chars g)
  case atStart => exact ⟨by first | rfl | simp, by omega, rfl, rfl⟩
  case round =>
    obtain ⟨rfl, hle, rfl, hno⟩ := hrel
    have HN : Aside (Go.FK.lastAny s chars s.size = Go.FK.lastAny s chars gk) := hno
    clear hno
    cases gk with
    | zero =>
      have hiz : ((0 : Nat) : Int) - 1 = -1 := by omega
      rw [hiz]
      go_wp2
      go_ret
      exact ⟨by rw [HN.out]; rfl, rfl⟩
    | succ g =>
      have hi : g < s.size := by omega
      have hiz : (g : Int) < (s.size : Int) := by omega
      have hge : (0 : Int) ≤ (g : Int) := by omega
      have he : ((g + 1 : Nat) : Int) - 1 = (g : Int) := by omega
      rw [he]
      obtain ⟨x, hx⟩ : ∃ x : UInt8, s[g]'hi = x := ⟨_, rfl⟩
      have hxg : s.get! g = x := by rw [← hx]; exact getElem!_pos s.data g hi
      have Hx : Aside (s.get! g = x) := hxg
      clear hxg
      have hcx := HC.out x
      cases hin : chars.data.toList.contains x <;> rw [hin] at hcx
      · have Hin : Aside (chars.data.toList.contains x = false) := hin
        go_wp2_with (go_at_fn 102; refine Calls.mono (show Calls Tryz.prog 102 _ _ _ from Any.asciiSet_contains Tryz.l228 _ x _ _ hcx) ?_; rintro e w' ⟨rfl, hw⟩; rw [hw])
        go_roundg g
        case measure => omega
        case rel => exact ⟨by first | rfl | simp, by omega, rfl, by rw [HN.out]; rw [Go.FK.lastAny_succ, Hx.out, Hin.out]; rfl⟩
      · have Hin : Aside (chars.data.toList.contains x = true) := hin
        go_wp2_with (go_at_fn 102; refine Calls.mono (show Calls Tryz.prog 102 _ _ _ from Any.asciiSet_contains Tryz.l228 _ x _ _ hcx) ?_; rintro e w' ⟨rfl, hw⟩; rw [hw])
        go_ret
        exact ⟨by rw [HN.out]; rw [Go.FK.lastAny_succ, Hx.out, Hin.out]; rfl, rfl⟩

open Go.FK in
theorem last_contract {F : ByteArray → ByteArray → Option Int} (h0 : Contract Tryz.prog 63 ⟨[.str, .str], [.int .i64], fun (x : ByteArray × ByteArray) => F x.1 x.2⟩) :
    Contract Tryz.prog 63 ⟨[.str, .str], [.int .i64], fun (x : ByteArray × ByteArray) => lastF x.1 x.2 (F x.1 x.2)⟩ := by
  intro x r hx M w vs hM hgl hvs
  have hr : lastF x.1 x.2 (F x.1 x.2) = some r := hx
  unfold lastF at hr
  cases hc : lastC x.1 x.2 with
  | false =>
    rw [hc] at hr
    exact h0 x r hr M w vs hM hgl hvs
  | true =>
    rw [hc] at hr
    simp only [cond_true, Option.some.injEq] at hr
    unfold lastC at hc
    simp only [Bool.and_eq_true, decide_eq_true_eq, List.all_eq_true] at hc
    obtain ⟨⟨⟨⟨c1, c2⟩, c3⟩, c4⟩, c5⟩ := hc
    match vs, hvs with
    | [u, v], ⟨h1, h2, _⟩ =>
      have e1 : u = .string x.1 := repV_str h1
      have e2 : v = .string x.2 := repV_str h2
      subst e1 e2
      left
      refine ⟨by kernel_rfl, ?_⟩
      refine Calls.mono (last_long x.1 x.2 w c3 c1 c2 c4 fun j b hj => c5 b (List.mem_of_getElem? hj)) fun e w' h => ?_
      obtain ⟨he, hb⟩ := h
      rw [hr] at he
      exact ⟨[.int .i64 r], by rw [he]; rfl, ⟨int_repV _ _ _ _, trivial⟩, by rw [hb]; exact ((Below.refl _ _).alloc (Nat.le_refl _) _).alloc (by simp) _⟩
end Go.Proofs.YtfalcbkhleobdaaGreatDoor
