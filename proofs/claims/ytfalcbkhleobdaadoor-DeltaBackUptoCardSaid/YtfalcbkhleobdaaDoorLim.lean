/- strings.LastIndexAny of a text longer than 8 bytes, by the shelf's contracts of its set. Tryd @..@ are filled by li.py. -/
import Derived.Shelf.Strings.IndexAny
import Derived.Shelf.Strings.AsciiSet
import Derived.Lib.Builder
import Derived.Test.YtfalcbkhleobdaaDoorF2
import Derived.Test.YtfalcbkhleobdaaDoorProg
namespace Go.Proofs
open Go.Shelf
def Tryd.liR : Go.Shelf.Ren := ⟨fun | 226 => 23 | 227 => 24 | 228 => 25 | n => n, fun | 116 => 51 | 124 => 78 | n => n, fun n => n⟩
theorem Tryd.l226 : Go.Proofs.Lays.n226 Tryd.prog Tryd.liR := {
  mixed := by kernel_rfl
  f226 := Tryd.func23.trans (congrArg some (by kernel_rfl))
  t3 := Tryd.underlying3
  a3 := Tryd.isAgg3
  z3 := Tryd.sizeOf3
  v3 := Tryd.zeroValue3
  t4 := Tryd.underlying4
  a4 := Tryd.isAgg4
  z4 := Tryd.sizeOf4
  v4 := Tryd.zeroValue4 }
theorem Tryd.l227 : Go.Proofs.Lays.n227 Tryd.prog Tryd.liR := {
  mixed := by kernel_rfl
  f227 := Tryd.func24.trans (congrArg some (by kernel_rfl))
  t0 := Tryd.underlying0
  a0 := Tryd.isAgg0
  z0 := Tryd.sizeOf0
  v0 := Tryd.zeroValue0
  t3 := Tryd.underlying3
  a3 := Tryd.isAgg3
  z3 := Tryd.sizeOf3
  v3 := Tryd.zeroValue3
  t4 := Tryd.underlying4
  a4 := Tryd.isAgg4
  z4 := Tryd.sizeOf4
  v4 := Tryd.zeroValue4
  t5 := Tryd.underlying5
  a5 := Tryd.isAgg5
  z5 := Tryd.sizeOf5
  v5 := Tryd.zeroValue5
  t9 := Tryd.underlying9
  a9 := Tryd.isAgg9
  z9 := Tryd.sizeOf9
  v9 := Tryd.zeroValue9
  t116 := Tryd.underlying51
  a116 := Tryd.isAgg51
  z116 := Tryd.sizeOf51 }
theorem Tryd.l228 : Go.Proofs.Lays.n228 Tryd.prog Tryd.liR := {
  mixed := by kernel_rfl
  f228 := Tryd.func25.trans (congrArg some (by kernel_rfl))
  t0 := Tryd.underlying0
  a0 := Tryd.isAgg0
  z0 := Tryd.sizeOf0
  v0 := Tryd.zeroValue0
  t4 := Tryd.underlying4
  a4 := Tryd.isAgg4
  z4 := Tryd.sizeOf4
  v4 := Tryd.zeroValue4
  t5 := Tryd.underlying5
  a5 := Tryd.isAgg5
  z5 := Tryd.sizeOf5
  v5 := Tryd.zeroValue5
  t116 := Tryd.underlying51
  a116 := Tryd.isAgg51
  z116 := Tryd.sizeOf51
  t124 := Tryd.underlying78
  a124 := Tryd.isAgg78
  z124 := Tryd.sizeOf78
  v124 := Tryd.zeroValue78 }
end Go.Proofs
namespace Go.FK
/-- The last place below n where s holds one of the bytes; -1 where none does. -/
def lastAny (s chars : ByteArray) : Nat → Int
  | 0 => -1
  | n + 1 => if chars.data.toList.contains (s.get! n) then (n : Int) else lastAny s chars n
def lastC (s c : ByteArray) : Bool := decide (8 < s.size) && decide (s.size < 4294967281) && decide (2 ≤ c.size) && decide (c.size < 4294967281) && c.data.toList.all (fun b => decide (b.toNat < 128))
def lastF (s c : ByteArray) (o : Option Int) : Option Int := bif lastC s c then some (lastAny s c s.size) else o
theorem lastAny_succ (s chars : ByteArray) (n : Nat) : lastAny s chars (n + 1) = if chars.data.toList.contains (s.get! n) then (n : Int) else lastAny s chars n := rfl
end Go.FK
namespace Go.Proofs.YtfalcbkhleobdaaDoor
open Go.Shelf Go.RowKit Go.Lib

set_option maxHeartbeats 8000000 in
set_option maxRecDepth 1000000 in
theorem last_long (s chars : ByteArray) (w : World) (h2 : 2 ≤ chars.size) (h8 : 8 < s.size) (hs : s.size < 4294967281) (hcs : chars.size < 4294967281)
    (hascii : ∀ (j : Nat) b, chars.data.toList[j]? = some b → b.toNat < 128) :
    Calls Tryd.prog 12 #[.string s, .string chars] w fun e w' => e = .returned (.int .i64 (Go.FK.lastAny s chars s.size)) ∧ w' = ((w.alloc (.cells (Lib.setCells chars.data.toList) 51)).alloc (.cells (Lib.setCells chars.data.toList) 51)) := by
  have h116 : (Tryd.prog.info? 51).map (fun i => (i.zero, i.size)) = some (some (.agg (Array.replicate 256 (.bool false))), 256) := by kernel_rfl
  have hv116 := (zero_of_info h116).1
  have hi116 := (zero_of_info h116).2
  have hM : Calls Tryd.prog 24 #[.string chars] w fun e w' => e = .returned (.tuple #[.agg (Lib.setCells chars.data.toList), .bool true]) ∧ w' = w.alloc (.cells (Lib.setCells chars.data.toList) 51) := Any.strings_makeASCIISet Tryd.l227 hv116 hi116 chars w hcs hascii
  clear hascii
  have hemp : chars.toList.isEmpty = false := by
    rw [Lib.toList_data]
    cases h : chars.data.toList with
    | nil => have := Lib.size_eq chars; rw [h, List.length_nil] at this; omega
    | cons _ _ => rfl
  have hn1 : ((s.size : Int) == 1) = false := beq_eq_false_iff_ne.2 (by omega)
  have h8z : decide ((8 : Int) < (s.size : Int)) = true := decide_eq_true (by omega)
  have hsc : (storeCells ⟨w.heap.size + 1, 0, none⟩ (Lib.setCells chars.data.toList).toList 0).run Tryd.prog ((w.alloc (.cells (Lib.setCells chars.data.toList) 51)).alloc (.cells (Array.replicate 256 (.bool false)) 51)) = .ok () ((w.alloc (.cells (Lib.setCells chars.data.toList) 51)).alloc (.cells (Lib.setCells chars.data.toList) 51)) := by
    have := run_storeCells_new (P := Tryd.prog) (w.alloc (.cells (Lib.setCells chars.data.toList) 51)) 51 (Array.replicate 256 (.bool false)) (Lib.setCells chars.data.toList) (by rw [Lib.setCells_size]; exact hi116) (by rw [Lib.setCells_size, Array.size_replicate]) (Lib.setCells_one _)
    simpa using this
  have hsz := Lib.setCells_size chars.data.toList
  have hcellAt : ∀ x : UInt8, ((w.alloc (.cells (Lib.setCells chars.data.toList) 51)).alloc (.cells (Lib.setCells chars.data.toList) 51)).cell? ⟨w.heap.size + 1, x.toNat, none⟩ = some (.bool (chars.data.toList.contains x)) := fun x => by
    rw [World.cell?_alloc_at _ _ _ _ (by simp), Lib.setCells_at]
  have HC : Aside (∀ x : UInt8, ((w.alloc (.cells (Lib.setCells chars.data.toList) 51)).alloc (.cells (Lib.setCells chars.data.toList) 51)).cell? ⟨w.heap.size + 1, x.toNat, none⟩ = some (.bool (chars.data.toList.contains x))) := hcellAt
  clear hcellAt
  have t3 := Tryd.underlying3; have a3 := Tryd.isAgg3; have z3 := Tryd.sizeOf3; have v3 := Tryd.zeroValue3
  have t4 := Tryd.underlying4; have a4 := Tryd.isAgg4; have z4 := Tryd.sizeOf4; have v4 := Tryd.zeroValue4
  have t5 := Tryd.underlying5; have a5 := Tryd.isAgg5; have z5 := Tryd.sizeOf5; have v5 := Tryd.zeroValue5
  have t9 := Tryd.underlying9; have a9 := Tryd.isAgg9; have z9 := Tryd.sizeOf9; have v9 := Tryd.zeroValue9
  have t21 := Tryd.underlying21; have a21 := Tryd.isAgg21; have z21 := Tryd.sizeOf21; have v21 := Tryd.zeroValue21
  have t116 := Tryd.underlying51
  have e226 : ∀ args w, (callFunc 23 args).run Tryd.prog w = .ok (.enter 23 args) w := enters_of Tryd.func23 (by kernel_rfl) rfl
  have e227 : ∀ args w, (callFunc 24 args).run Tryd.prog w = .ok (.enter 24 args) w := enters_of Tryd.func24 (by kernel_rfl) rfl
  have e228 : ∀ args w, (callFunc 25 args).run Tryd.prog w = .ok (.enter 25 args) w := enters_of Tryd.func25 (by kernel_rfl) rfl
  go_enter Tryd.func12, (show Tryd.f12.ntmps = 96 from rfl)
  go_wp2_with (first
    | (go_at_fn 23; refine Calls.mono (show Calls Tryd.prog 23 _ _ _ from Any.strings_shouldUseASCIISet Tryd.l226 _ _) ?_; rintro e w' ⟨rfl, hw⟩; rw [hw, h8z])
    | (go_at_fn 24; refine hM.mono ?_; rintro e w' ⟨rfl, hw⟩; rw [hw]))
  clear hM hsc
  go_loopg [8] s.size (fun g s8 wx => s8 = .int .i64 ((g : Int) - 1) ∧ g ≤ s.size ∧ wx = ((w.alloc (.cells (Lib.setCells chars.data.toList) 51)).alloc (.cells (Lib.setCells chars.data.toList) 51)) ∧ Go.FK.lastAny s chars s.size = Go.FK.lastAny s chars g)
  case atStart => exact ⟨by first | rfl | simp, by omega, rfl, rfl⟩
  case round =>
    obtain ⟨rfl, hle, rfl, hno⟩ := hrel
    have HN : Aside (Go.FK.lastAny s chars s.size = Go.FK.lastAny s chars gk) := hno
    clear hno
    cases gk with
    | zero =>
      have hiz : ((0 : Nat) : Int) - 1 = -1 := by omega
      rw [hiz]
      go_wp2
      go_ret
      exact ⟨by rw [HN.out]; rfl, rfl⟩
    | succ g =>
      have hi : g < s.size := by omega
      have hiz : (g : Int) < (s.size : Int) := by omega
      have hge : (0 : Int) ≤ (g : Int) := by omega
      have he : ((g + 1 : Nat) : Int) - 1 = (g : Int) := by omega
      rw [he]
      obtain ⟨x, hx⟩ : ∃ x : UInt8, s[g]'hi = x := ⟨_, rfl⟩
      have hxg : s.get! g = x := by rw [← hx]; exact getElem!_pos s.data g hi
      have Hx : Aside (s.get! g = x) := hxg
      clear hxg
      have hcx := HC.out x
      cases hin : chars.data.toList.contains x <;> rw [hin] at hcx
      · have Hin : Aside (chars.data.toList.contains x = false) := hin
        go_wp2_with (go_at_fn 25; refine Calls.mono (show Calls Tryd.prog 25 _ _ _ from Any.asciiSet_contains Tryd.l228 _ x _ _ hcx) ?_; rintro e w' ⟨rfl, hw⟩; rw [hw])
        go_roundg g
        case measure => omega
        case rel => exact ⟨by first | rfl | simp, by omega, rfl, by rw [HN.out]; rw [Go.FK.lastAny_succ, Hx.out, Hin.out]; rfl⟩
      · have Hin : Aside (chars.data.toList.contains x = true) := hin
        go_wp2_with (go_at_fn 25; refine Calls.mono (show Calls Tryd.prog 25 _ _ _ from Any.asciiSet_contains Tryd.l228 _ x _ _ hcx) ?_; rintro e w' ⟨rfl, hw⟩; rw [hw])
        go_ret
        exact ⟨by rw [HN.out]; rw [Go.FK.lastAny_succ, Hx.out, Hin.out]; rfl, rfl⟩

open Go.FK in
theorem last_contract {F : ByteArray → ByteArray → Option Int} (h0 : Contract Tryd.prog 12 ⟨[.str, .str], [.int .i64], fun (x : ByteArray × ByteArray) => F x.1 x.2⟩) :
    Contract Tryd.prog 12 ⟨[.str, .str], [.int .i64], fun (x : ByteArray × ByteArray) => lastF x.1 x.2 (F x.1 x.2)⟩ := by
  intro x r hx M w vs hM hgl hvs
  have hr : lastF x.1 x.2 (F x.1 x.2) = some r := hx
  unfold lastF at hr
  cases hc : lastC x.1 x.2 with
  | false =>
    rw [hc] at hr
    exact h0 x r hr M w vs hM hgl hvs
  | true =>
    rw [hc] at hr
    simp only [cond_true, Option.some.injEq] at hr
    unfold lastC at hc
    simp only [Bool.and_eq_true, decide_eq_true_eq, List.all_eq_true] at hc
    obtain ⟨⟨⟨⟨c1, c2⟩, c3⟩, c4⟩, c5⟩ := hc
    match vs, hvs with
    | [u, v], ⟨h1, h2, _⟩ =>
      have e1 : u = .string x.1 := repV_str h1
      have e2 : v = .string x.2 := repV_str h2
      subst e1 e2
      left
      refine ⟨by kernel_rfl, ?_⟩
      refine Calls.mono (last_long x.1 x.2 w c3 c1 c2 c4 fun j b hj => c5 b (List.mem_of_getElem? hj)) fun e w' h => ?_
      obtain ⟨he, hb⟩ := h
      rw [hr] at he
      exact ⟨[.int .i64 r], by rw [he]; rfl, ⟨int_repV _ _ _ _, trivial⟩, by rw [hb]; exact ((Below.refl _ _).alloc (Nat.le_refl _) _).alloc (by simp) _⟩
end Go.Proofs.YtfalcbkhleobdaaDoor
