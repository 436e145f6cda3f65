/- Contracts, printed by fgen.py. -/
import Derived.Test.YtaggjlegalmiaaaPlm
import Derived.Test.YtaggjlegalmiaaaProg
namespace Go.Proofs.Ytaggjlegalmiaaa
open Go.FK
theorem mix : Try.prog.follows .mixedOrders = true ∧ ArrsOk Try.prog := ⟨by kernel_rfl, arrsB_ok (by kernel_rfl)⟩
def tyTab : List (TypeId × TI) := [(2, ⟨(.int .i64), 0, 0⟩), (3, ⟨(.int .i64), 0, 0⟩), (4, ⟨.bool, 0, 0⟩), (5, ⟨(.int .u8), 0, 0⟩), (9, ⟨.str, 0, 0⟩), (23, ⟨(.list (.int .u32)), 44, 4⟩), (25, ⟨(.st (.pair .bool (.list (.int .u32)))), 0, 0⟩), (27, ⟨(.st (.pair (.st (.pair .bool (.list (.int .u32)))) (.list (.int .u32)))), 0, 0⟩), (28, ⟨.flt, 0, 0⟩), (33, ⟨(.int .u64), 0, 0⟩), (41, ⟨(.int .i64), 0, 0⟩), (44, ⟨(.int .u32), 0, 0⟩), (68, ⟨(.int .u64), 0, 0⟩), (101, ⟨(.list (.int .i64)), 3, 8⟩)]
theorem tyOk : tysB Try.prog tyTab = true := by kernel_rfl

namespace math_Float64bits
theorem c (k : Nat) : Contract Try.prog 15 ⟨[.flt], [(.int .u64)], fun (x : Nat) => math_Float64bits.f k x⟩ :=
  float64bits_contract (fn := Try.f15) (by kernel_rfl) (by kernel_rfl) (by kernel_rfl) (by kernel_rfl) (by kernel_rfl) (fun _ => rfl)
end math_Float64bits

namespace ref04_IsNaN
def fws : Nat → List (FuncId × FW) := fun _ => []
def ptL : List (Pt (TD [.bool])) := []
def fns : Nat → List (FuncId × FS) := fun _ => []
def fgs : Nat → List (FuncId × FG) := fun _ => []
def fs (k : Nat) : FS := ⟨[(.int .u64)], [.bool], fun (x : Int) => ref04_IsNaN.f k x⟩
theorem ok : FnOk Try.prog 14 6 Try.f14.results.toList (Try.f14.body.getD .skip) 1 := ⟨⟨Try.f14, by kernel_rfl, by kernel_rfl, by kernel_rfl, rfl, by kernel_rfl⟩, by kernel_rfl, by decide⟩
theorem c (k : Nat) : Contract Try.prog 14 (fs k) :=
  fn_sound (ps := [(.int .u64)]) (rs := [.bool]) (pts := ptL) (fns := fns) (fgs := fgs) (fws := fws) (tys := tyTab) (main := fun k (x : Int) => ref04_IsNaN.f k x) ok mix tyOk trivial (fun k x => by kernel_rfl) (fun _ => ⟨trivial, trivial, trivial⟩) k
end ref04_IsNaN

namespace ref04_IsInf
def fws : Nat → List (FuncId × FW) := fun _ => []
def ptL : List (Pt (TD [.bool])) := []
def fns : Nat → List (FuncId × FS) := fun _ => []
def fgs : Nat → List (FuncId × FG) := fun _ => []
def fs (k : Nat) : FS := ⟨[(.int .u64)], [.bool], fun (x : Int) => ref04_IsInf.f k x⟩
theorem ok : FnOk Try.prog 39 6 Try.f39.results.toList (Try.f39.body.getD .skip) 1 := ⟨⟨Try.f39, by kernel_rfl, by kernel_rfl, by kernel_rfl, rfl, by kernel_rfl⟩, by kernel_rfl, by decide⟩
theorem c (k : Nat) : Contract Try.prog 39 (fs k) :=
  fn_sound (ps := [(.int .u64)]) (rs := [.bool]) (pts := ptL) (fns := fns) (fgs := fgs) (fws := fws) (tys := tyTab) (main := fun k (x : Int) => ref04_IsInf.f k x) ok mix tyOk trivial (fun k x => by kernel_rfl) (fun _ => ⟨trivial, trivial, trivial⟩) k
end ref04_IsInf

namespace law04_finite
def fws : Nat → List (FuncId × FW) := fun _ => []
def ptL : List (Pt (TD [.bool])) := []
def fns : Nat → List (FuncId × FS) := fun k => [(15, ⟨[.flt], [(.int .u64)], fun (x : Nat) => math_Float64bits.f k x⟩), (14, ⟨[(.int .u64)], [.bool], fun (x : Int) => ref04_IsNaN.f k x⟩), (39, ⟨[(.int .u64)], [.bool], fun (x : Int) => ref04_IsInf.f k x⟩)]
def fgs : Nat → List (FuncId × FG) := fun _ => []
def fs (k : Nat) : FS := ⟨[.flt], [.bool], fun (x : Nat) => law04_finite.f k x⟩
theorem ok : FnOk Try.prog 10 14 Try.f10.results.toList (Try.f10.body.getD .skip) 1 := ⟨⟨Try.f10, by kernel_rfl, by kernel_rfl, by kernel_rfl, rfl, by kernel_rfl⟩, by kernel_rfl, by decide⟩
theorem c (k : Nat) : Contract Try.prog 10 (fs k) :=
  fn_sound (ps := [.flt]) (rs := [.bool]) (pts := ptL) (fns := fns) (fgs := fgs) (fws := fws) (tys := tyTab) (main := fun k (x : Nat) => law04_finite.f k x) ok mix tyOk trivial (fun k x => by kernel_rfl) (fun k => ⟨⟨math_Float64bits.c k, ref04_IsNaN.c k, ref04_IsInf.c k, trivial⟩, trivial, trivial⟩) k
end law04_finite

namespace nat_trim
def s0 : PSig := ⟨0, [], [(0, .val (.list (.int .u32))), (3, .val (.int .i64))]⟩
def s9 : PSig := ⟨0, [], [(0, .val (.list (.int .u32))), (3, .val (.int .i64))]⟩
def fws : Nat → List (FuncId × FW) := fun _ => []
def ptL : List (Pt (TD [(.list (.int .u32))])) := [⟨0, s0, fun k (x : (List Int) × Int) => nat_trim.p0 k x.1 x.2⟩, ⟨9, s9, fun k (x : (List Int) × Int) => nat_trim.p9 k x.1 x.2⟩]
def fns : Nat → List (FuncId × FS) := fun _ => []
def fgs : Nat → List (FuncId × FG) := fun _ => []
def fs (k : Nat) : FS := ⟨[(.list (.int .u32))], [(.list (.int .u32))], fun (x : (List Int)) => nat_trim.f k x⟩
theorem ok : FnOk Try.prog 105 21 Try.f105.results.toList (Try.f105.body.getD .skip) 1 := ⟨⟨Try.f105, by kernel_rfl, by kernel_rfl, by kernel_rfl, rfl, by kernel_rfl⟩, by kernel_rfl, by decide⟩
theorem c (k : Nat) : Contract Try.prog 105 (fs k) :=
  fn_sound (ps := [(.list (.int .u32))]) (rs := [(.list (.int .u32))]) (pts := ptL) (fns := fns) (fgs := fgs) (fws := fws) (tys := tyTab) (main := fun k (x : (List Int)) => nat_trim.f k x) ok mix tyOk ⟨⟨rfl, fun _ => rfl, fun k x => by kernel_rfl⟩, ⟨rfl, fun _ => rfl, fun k x => by kernel_rfl⟩, trivial⟩ (fun k x => by kernel_rfl) (fun _ => ⟨trivial, trivial, trivial⟩) k
end nat_trim

namespace bits_Len32
def s9 : PSig := ⟨0, [], [(0, .val (.int .u32)), (2, .val (.int .i64))]⟩
def s15 : PSig := ⟨0, [], [(0, .val (.int .u32)), (2, .val (.int .i64))]⟩
def fws : Nat → List (FuncId × FW) := fun _ => []
def ptL : List (Pt (TD [(.int .i64)])) := [⟨9, s9, fun k (x : Int × Int) => bits_Len32.p9 k x.1 x.2⟩, ⟨15, s15, fun k (x : Int × Int) => bits_Len32.p15 k x.1 x.2⟩]
def fns : Nat → List (FuncId × FS) := fun _ => []
def fgs : Nat → List (FuncId × FG) := fun _ => []
def fs (k : Nat) : FS := ⟨[(.int .u32)], [(.int .i64)], fun (x : Int) => bits_Len32.f k x⟩
theorem ok : FnOk Try.prog 106 19 Try.f106.results.toList (Try.f106.body.getD .skip) 1 := ⟨⟨Try.f106, by kernel_rfl, by kernel_rfl, by kernel_rfl, rfl, by kernel_rfl⟩, by kernel_rfl, by decide⟩
theorem c (k : Nat) : Contract Try.prog 106 (fs k) :=
  fn_sound (ps := [(.int .u32)]) (rs := [(.int .i64)]) (pts := ptL) (fns := fns) (fgs := fgs) (fws := fws) (tys := tyTab) (main := fun k (x : Int) => bits_Len32.f k x) ok mix tyOk ⟨⟨rfl, fun _ => rfl, fun k x => by kernel_rfl⟩, ⟨rfl, fun _ => rfl, fun k x => by kernel_rfl⟩, trivial⟩ (fun k x => by kernel_rfl) (fun _ => ⟨trivial, trivial, trivial⟩) k
end bits_Len32

namespace nat_Bits
def fws : Nat → List (FuncId × FW) := fun _ => []
def ptL : List (Pt (TD [(.int .i64)])) := []
def fns : Nat → List (FuncId × FS) := fun k => [(105, ⟨[(.list (.int .u32))], [(.list (.int .u32))], fun (x : (List Int)) => nat_trim.f k x⟩), (106, ⟨[(.int .u32)], [(.int .i64)], fun (x : Int) => bits_Len32.f k x⟩)]
def fgs : Nat → List (FuncId × FG) := fun _ => []
def fs (k : Nat) : FS := ⟨[(.list (.int .u32))], [(.int .i64)], fun (x : (List Int)) => nat_Bits.f k x⟩
theorem ok : FnOk Try.prog 72 20 Try.f72.results.toList (Try.f72.body.getD .skip) 1 := ⟨⟨Try.f72, by kernel_rfl, by kernel_rfl, by kernel_rfl, rfl, by kernel_rfl⟩, by kernel_rfl, by decide⟩
theorem c (k : Nat) : Contract Try.prog 72 (fs k) :=
  fn_sound (ps := [(.list (.int .u32))]) (rs := [(.int .i64)]) (pts := ptL) (fns := fns) (fgs := fgs) (fws := fws) (tys := tyTab) (main := fun k (x : (List Int)) => nat_Bits.f k x) ok mix tyOk trivial (fun k x => by kernel_rfl) (fun k => ⟨⟨nat_trim.c k, bits_Len32.c k, trivial⟩, trivial, trivial⟩) k
end nat_Bits

namespace nat_own
def fws : Nat → List (FuncId × FW) := fun _ => []
def ptL : List (Pt (TD [(.list (.int .u32))])) := []
def fns : Nat → List (FuncId × FS) := fun k => [(105, ⟨[(.list (.int .u32))], [(.list (.int .u32))], fun (x : (List Int)) => nat_trim.f k x⟩)]
def fgs : Nat → List (FuncId × FG) := fun _ => []
def fs (k : Nat) : FS := ⟨[(.list (.int .u32))], [(.list (.int .u32))], fun (x : (List Int)) => nat_own.f k x⟩
theorem ok : FnOk Try.prog 96 16 Try.f96.results.toList (Try.f96.body.getD .skip) 1 := ⟨⟨Try.f96, by kernel_rfl, by kernel_rfl, by kernel_rfl, rfl, by kernel_rfl⟩, by kernel_rfl, by decide⟩
theorem c (k : Nat) : Contract Try.prog 96 (fs k) :=
  fn_sound (ps := [(.list (.int .u32))]) (rs := [(.list (.int .u32))]) (pts := ptL) (fns := fns) (fgs := fgs) (fws := fws) (tys := tyTab) (main := fun k (x : (List Int)) => nat_own.f k x) ok mix tyOk trivial (fun k x => by kernel_rfl) (fun k => ⟨⟨nat_trim.c k, trivial⟩, trivial, trivial⟩) k
def fw (k : Nat) : FW := ⟨[(.list (.int .u32))], 44, (.int .u32), false, fun (x : (List Int)) => nat_own.f k x⟩
def ptW : List (Pt (List (Ty.D (.int .u32)))) := []
theorem cw (k : Nat) : ContractW Try.prog 96 (fw k) :=
  fn_soundW (ps := [(.list (.int .u32))]) (e := 44) (t := (.int .u32)) (bx := false) (pts := ptW) (fns := fns) (fgs := fgs) (fws := fws) (tys := tyTab) (main := fun k (x : (List Int)) => nat_own.f k x) ok mix tyOk trivial (fun k x => by kernel_rfl) (fun k => ⟨⟨nat_trim.c k, trivial⟩, trivial, trivial⟩) k
end nat_own

namespace nat_Cmp
def s0 : PSig := ⟨0, [], [(0, .val (.list (.int .u32))), (1, .val (.list (.int .u32))), (5, .val (.int .i64))]⟩
def fws : Nat → List (FuncId × FW) := fun _ => []
def ptL : List (Pt (TD [(.int .i64)])) := [⟨0, s0, fun k (x : (List Int) × (List Int) × Int) => nat_Cmp.p0 k x.1 x.2.1 x.2.2⟩]
def fns : Nat → List (FuncId × FS) := fun k => [(105, ⟨[(.list (.int .u32))], [(.list (.int .u32))], fun (x : (List Int)) => nat_trim.f k x⟩)]
def fgs : Nat → List (FuncId × FG) := fun _ => []
def fs (k : Nat) : FS := ⟨[(.list (.int .u32)), (.list (.int .u32))], [(.int .i64)], fun (x : (List Int) × (List Int)) => nat_Cmp.f k x.1 x.2⟩
theorem ok : FnOk Try.prog 75 45 Try.f75.results.toList (Try.f75.body.getD .skip) 2 := ⟨⟨Try.f75, by kernel_rfl, by kernel_rfl, by kernel_rfl, rfl, by kernel_rfl⟩, by kernel_rfl, by decide⟩
theorem c (k : Nat) : Contract Try.prog 75 (fs k) :=
  fn_sound (ps := [(.list (.int .u32)), (.list (.int .u32))]) (rs := [(.int .i64)]) (pts := ptL) (fns := fns) (fgs := fgs) (fws := fws) (tys := tyTab) (main := fun k (x : (List Int) × (List Int)) => nat_Cmp.f k x.1 x.2) ok mix tyOk ⟨⟨rfl, fun _ => rfl, fun k x => by kernel_rfl⟩, trivial⟩ (fun k x => by kernel_rfl) (fun k => ⟨⟨nat_trim.c k, trivial⟩, trivial, trivial⟩) k
end nat_Cmp

namespace bits_Div32
def s7 : PSig := ⟨0, [], [(0, .val (.int .u32)), (1, .val (.int .u32)), (2, .val (.int .u32))]⟩
def fws : Nat → List (FuncId × FW) := fun _ => []
def ptL : List (Pt (TD [(.int .u32), (.int .u32)])) := [⟨7, s7, fun k (x : Int × Int × Int) => bits_Div32.p7 k x.1 x.2.1 x.2.2⟩]
def fns : Nat → List (FuncId × FS) := fun _ => []
def fgs : Nat → List (FuncId × FG) := fun _ => []
def fs (k : Nat) : FS := ⟨[(.int .u32), (.int .u32), (.int .u32)], [(.int .u32), (.int .u32)], fun (x : Int × Int × Int) => bits_Div32.f k x.1 x.2.1 x.2.2⟩
theorem ok : FnOk Try.prog 123 33 Try.f123.results.toList (Try.f123.body.getD .skip) 3 := ⟨⟨Try.f123, by kernel_rfl, by kernel_rfl, by kernel_rfl, rfl, by kernel_rfl⟩, by kernel_rfl, by decide⟩
theorem c (k : Nat) : Contract Try.prog 123 (fs k) :=
  fn_sound (ps := [(.int .u32), (.int .u32), (.int .u32)]) (rs := [(.int .u32), (.int .u32)]) (pts := ptL) (fns := fns) (fgs := fgs) (fws := fws) (tys := tyTab) (main := fun k (x : Int × Int × Int) => bits_Div32.f k x.1 x.2.1 x.2.2) ok mix tyOk ⟨⟨rfl, fun _ => rfl, fun k x => by kernel_rfl⟩, trivial⟩ (fun k x => by kernel_rfl) (fun _ => ⟨trivial, trivial, trivial⟩) k
end bits_Div32

namespace nat_short
def s0 : PSig := ⟨0, [(44, (.int .u32), false)], [(0, .val (.list (.int .u32))), (1, .val (.int .u32)), (6, .own 0), (7, .val (.int .u32)), (8, .val (.int .i64))]⟩
def fws : Nat → List (FuncId × FW) := fun _ => []
def ptL : List (Pt (TD [(.list (.int .u32)), (.int .u32)])) := [⟨0, s0, fun k (x : (List Int) × (List Int) × Int × Int × Int) => nat_short.p0 k x.1 x.2.1 x.2.2.1 x.2.2.2.1 x.2.2.2.2⟩]
def fns : Nat → List (FuncId × FS) := fun k => [(123, ⟨[(.int .u32), (.int .u32), (.int .u32)], [(.int .u32), (.int .u32)], fun (x : Int × Int × Int) => bits_Div32.f k x.1 x.2.1 x.2.2⟩)]
def fgs : Nat → List (FuncId × FG) := fun _ => []
def fs (k : Nat) : FS := ⟨[(.list (.int .u32)), (.int .u32)], [(.list (.int .u32)), (.int .u32)], fun (x : (List Int) × Int) => nat_short.f k x.1 x.2⟩
theorem ok : FnOk Try.prog 120 34 Try.f120.results.toList (Try.f120.body.getD .skip) 2 := ⟨⟨Try.f120, by kernel_rfl, by kernel_rfl, by kernel_rfl, rfl, by kernel_rfl⟩, by kernel_rfl, by decide⟩
theorem c (k : Nat) : Contract Try.prog 120 (fs k) :=
  fn_sound (ps := [(.list (.int .u32)), (.int .u32)]) (rs := [(.list (.int .u32)), (.int .u32)]) (pts := ptL) (fns := fns) (fgs := fgs) (fws := fws) (tys := tyTab) (main := fun k (x : (List Int) × Int) => nat_short.f k x.1 x.2) ok mix tyOk ⟨⟨rfl, fun _ => rfl, fun k x => by kernel_rfl⟩, trivial⟩ (fun k x => by kernel_rfl) (fun k => ⟨⟨bits_Div32.c k, trivial⟩, trivial, trivial⟩) k
end nat_short

namespace bits_LeadingZeros32
def fws : Nat → List (FuncId × FW) := fun _ => []
def ptL : List (Pt (TD [(.int .i64)])) := []
def fns : Nat → List (FuncId × FS) := fun k => [(106, ⟨[(.int .u32)], [(.int .i64)], fun (x : Int) => bits_Len32.f k x⟩)]
def fgs : Nat → List (FuncId × FG) := fun _ => []
def fs (k : Nat) : FS := ⟨[(.int .u32)], [(.int .i64)], fun (x : Int) => bits_LeadingZeros32.f k x⟩
theorem ok : FnOk Try.prog 124 6 Try.f124.results.toList (Try.f124.body.getD .skip) 1 := ⟨⟨Try.f124, by kernel_rfl, by kernel_rfl, by kernel_rfl, rfl, by kernel_rfl⟩, by kernel_rfl, by decide⟩
theorem c (k : Nat) : Contract Try.prog 124 (fs k) :=
  fn_sound (ps := [(.int .u32)]) (rs := [(.int .i64)]) (pts := ptL) (fns := fns) (fgs := fgs) (fws := fws) (tys := tyTab) (main := fun k (x : Int) => bits_LeadingZeros32.f k x) ok mix tyOk trivial (fun k x => by kernel_rfl) (fun k => ⟨⟨bits_Len32.c k, trivial⟩, trivial, trivial⟩) k
end bits_LeadingZeros32

namespace nat_moved
def s0 : PSig := ⟨0, [(44, (.int .u32), false)], [(0, .val (.list (.int .u32))), (1, .val (.int .i64)), (5, .own 0), (12, .val (.int .i64)), (13, .val (.int .i64))]⟩
def fws : Nat → List (FuncId × FW) := fun _ => []
def ptL : List (Pt (TD [(.list (.int .u32))])) := [⟨0, s0, fun k (x : (List Int) × (List Int) × Int × Int × Int) => nat_moved.p0 k x.1 x.2.1 x.2.2.1 x.2.2.2.1 x.2.2.2.2⟩]
def fns : Nat → List (FuncId × FS) := fun _ => []
def fgs : Nat → List (FuncId × FG) := fun _ => []
def fs (k : Nat) : FS := ⟨[(.list (.int .u32)), (.int .i64)], [(.list (.int .u32))], fun (x : (List Int) × Int) => nat_moved.f k x.1 x.2⟩
theorem ok : FnOk Try.prog 118 43 Try.f118.results.toList (Try.f118.body.getD .skip) 2 := ⟨⟨Try.f118, by kernel_rfl, by kernel_rfl, by kernel_rfl, rfl, by kernel_rfl⟩, by kernel_rfl, by decide⟩
theorem c (k : Nat) : Contract Try.prog 118 (fs k) :=
  fn_sound (ps := [(.list (.int .u32)), (.int .i64)]) (rs := [(.list (.int .u32))]) (pts := ptL) (fns := fns) (fgs := fgs) (fws := fws) (tys := tyTab) (main := fun k (x : (List Int) × Int) => nat_moved.f k x.1 x.2) ok mix tyOk ⟨⟨rfl, fun _ => rfl, fun k x => by kernel_rfl⟩, trivial⟩ (fun k x => by kernel_rfl) (fun _ => ⟨trivial, trivial, trivial⟩) k
def fw (k : Nat) : FW := ⟨[(.list (.int .u32)), (.int .i64)], 44, (.int .u32), false, fun (x : (List Int) × Int) => nat_moved.f k x.1 x.2⟩
def ptW : List (Pt (List (Ty.D (.int .u32)))) := [⟨0, s0, fun k (x : (List Int) × (List Int) × Int × Int × Int) => nat_moved.p0 k x.1 x.2.1 x.2.2.1 x.2.2.2.1 x.2.2.2.2⟩]
theorem cw (k : Nat) : ContractW Try.prog 118 (fw k) :=
  fn_soundW (ps := [(.list (.int .u32)), (.int .i64)]) (e := 44) (t := (.int .u32)) (bx := false) (pts := ptW) (fns := fns) (fgs := fgs) (fws := fws) (tys := tyTab) (main := fun k (x : (List Int) × Int) => nat_moved.f k x.1 x.2) ok mix tyOk ⟨⟨rfl, fun _ => rfl, fun k x => by kernel_rfl⟩, trivial⟩ (fun k x => by kernel_rfl) (fun _ => ⟨trivial, trivial, trivial⟩) k
end nat_moved

namespace bits_Sub32
def fws : Nat → List (FuncId × FW) := fun _ => []
def ptL : List (Pt (TD [(.int .u32), (.int .u32)])) := []
def fns : Nat → List (FuncId × FS) := fun _ => []
def fgs : Nat → List (FuncId × FG) := fun _ => []
def fs (k : Nat) : FS := ⟨[(.int .u32), (.int .u32), (.int .u32)], [(.int .u32), (.int .u32)], fun (x : Int × Int × Int) => bits_Sub32.f k x.1 x.2.1 x.2.2⟩
theorem ok : FnOk Try.prog 122 25 Try.f122.results.toList (Try.f122.body.getD .skip) 3 := ⟨⟨Try.f122, by kernel_rfl, by kernel_rfl, by kernel_rfl, rfl, by kernel_rfl⟩, by kernel_rfl, by decide⟩
theorem c (k : Nat) : Contract Try.prog 122 (fs k) :=
  fn_sound (ps := [(.int .u32), (.int .u32), (.int .u32)]) (rs := [(.int .u32), (.int .u32)]) (pts := ptL) (fns := fns) (fgs := fgs) (fws := fws) (tys := tyTab) (main := fun k (x : Int × Int × Int) => bits_Sub32.f k x.1 x.2.1 x.2.2) ok mix tyOk trivial (fun k x => by kernel_rfl) (fun _ => ⟨trivial, trivial, trivial⟩) k
end bits_Sub32

namespace bits_Add32
def fws : Nat → List (FuncId × FW) := fun _ => []
def ptL : List (Pt (TD [(.int .u32), (.int .u32)])) := []
def fns : Nat → List (FuncId × FS) := fun _ => []
def fgs : Nat → List (FuncId × FG) := fun _ => []
def fs (k : Nat) : FS := ⟨[(.int .u32), (.int .u32), (.int .u32)], [(.int .u32), (.int .u32)], fun (x : Int × Int × Int) => bits_Add32.f k x.1 x.2.1 x.2.2⟩
theorem ok : FnOk Try.prog 108 22 Try.f108.results.toList (Try.f108.body.getD .skip) 3 := ⟨⟨Try.f108, by kernel_rfl, by kernel_rfl, by kernel_rfl, rfl, by kernel_rfl⟩, by kernel_rfl, by decide⟩
theorem c (k : Nat) : Contract Try.prog 108 (fs k) :=
  fn_sound (ps := [(.int .u32), (.int .u32), (.int .u32)]) (rs := [(.int .u32), (.int .u32)]) (pts := ptL) (fns := fns) (fgs := fgs) (fws := fws) (tys := tyTab) (main := fun k (x : Int × Int × Int) => bits_Add32.f k x.1 x.2.1 x.2.2) ok mix tyOk trivial (fun k x => by kernel_rfl) (fun _ => ⟨trivial, trivial, trivial⟩) k
end bits_Add32

namespace nat_digit
def s0 : PSig := ⟨1, [(44, (.int .u32), false)], [(0, .win 0), (1, .val (.list (.int .u32))), (5, .val (.int .i64)), (7, .val (.int .u64)), (8, .val (.int .u64))]⟩
def s11 : PSig := ⟨1, [(44, (.int .u32), false)], [(0, .win 0), (1, .val (.list (.int .u32))), (5, .val (.int .i64)), (7, .val (.int .u64)), (8, .val (.int .u64))]⟩
def s4 : PSig := ⟨1, [(44, (.int .u32), false)], [(0, .win 0), (1, .val (.list (.int .u32))), (5, .val (.int .i64)), (7, .val (.int .u64)), (9, .val (.int .u32)), (10, .val (.int .u64)), (82, .val (.int .i64)), (83, .val (.int .i64))]⟩
def s8 : PSig := ⟨1, [(44, (.int .u32), false)], [(0, .win 0), (1, .val (.list (.int .u32))), (5, .val (.int .i64)), (7, .val (.int .u64)), (13, .val (.int .u32)), (130, .val (.int .i64)), (131, .val (.int .i64))]⟩
def fws : Nat → List (FuncId × FW) := fun _ => []
def ptL : List (Pt (TD ([.win 44 (.int .u32), .val (.list (.int .u32))].flatMap PK.outs ++ [(.int .u32)]))) := [⟨0, s0, fun k (x : (List Int) × Nat × Nat × (List Int) × Int × Int × Int) => nat_digit.p0 k x.1 x.2.1 x.2.2.1 x.2.2.2.1 x.2.2.2.2.1 x.2.2.2.2.2.1 x.2.2.2.2.2.2⟩, ⟨11, s11, fun k (x : (List Int) × Nat × Nat × (List Int) × Int × Int × Int) => nat_digit.p11 k x.1 x.2.1 x.2.2.1 x.2.2.2.1 x.2.2.2.2.1 x.2.2.2.2.2.1 x.2.2.2.2.2.2⟩, ⟨4, s4, fun k (x : (List Int) × Nat × Nat × (List Int) × Int × Int × Int × Int × Int × Int) => nat_digit.p4 k x.1 x.2.1 x.2.2.1 x.2.2.2.1 x.2.2.2.2.1 x.2.2.2.2.2.1 x.2.2.2.2.2.2.1 x.2.2.2.2.2.2.2.1 x.2.2.2.2.2.2.2.2.1 x.2.2.2.2.2.2.2.2.2⟩, ⟨8, s8, fun k (x : (List Int) × Nat × Nat × (List Int) × Int × Int × Int × Int × Int) => nat_digit.p8 k x.1 x.2.1 x.2.2.1 x.2.2.2.1 x.2.2.2.2.1 x.2.2.2.2.2.1 x.2.2.2.2.2.2.1 x.2.2.2.2.2.2.2.1 x.2.2.2.2.2.2.2.2⟩]
def fns : Nat → List (FuncId × FS) := fun k => [(122, ⟨[(.int .u32), (.int .u32), (.int .u32)], [(.int .u32), (.int .u32)], fun (x : Int × Int × Int) => bits_Sub32.f k x.1 x.2.1 x.2.2⟩), (108, ⟨[(.int .u32), (.int .u32), (.int .u32)], [(.int .u32), (.int .u32)], fun (x : Int × Int × Int) => bits_Add32.f k x.1 x.2.1 x.2.2⟩)]
def fgs : Nat → List (FuncId × FG) := fun _ => []
def fg (k : Nat) : FG := ⟨[.win 44 (.int .u32), .val (.list (.int .u32))], [(.int .u32)], fun (x : (List Int) × Nat × Nat × (List Int)) => nat_digit.f k x.1 x.2.1 x.2.2.1 x.2.2.2⟩
theorem ok : FnOk Try.prog 125 160 Try.f125.results.toList (Try.f125.body.getD .skip) 2 := ⟨⟨Try.f125, by kernel_rfl, by kernel_rfl, by kernel_rfl, rfl, by kernel_rfl⟩, by kernel_rfl, by decide⟩
theorem c (k : Nat) : ContractG Try.prog 125 (fg k) :=
  fn_soundG (ps := [.win 44 (.int .u32), .val (.list (.int .u32))]) (rs := [(.int .u32)]) (pts := ptL) (fns := fns) (fgs := fgs) (fws := fws) (tys := tyTab) (main := fun k (x : (List Int) × Nat × Nat × (List Int)) => nat_digit.f k x.1 x.2.1 x.2.2.1 x.2.2.2) ok rfl mix tyOk ⟨⟨rfl, fun _ => rfl, fun k x => by kernel_rfl⟩, ⟨rfl, fun _ => rfl, fun k x => by kernel_rfl⟩, ⟨rfl, fun _ => rfl, fun k x => by kernel_rfl⟩, ⟨rfl, fun _ => rfl, fun k x => by kernel_rfl⟩, trivial⟩ (fun k x => by kernel_rfl) (fun k => ⟨⟨bits_Sub32.c k, bits_Add32.c k, trivial⟩, trivial, trivial⟩) k
end nat_digit

namespace nat_long
def s0 : PSig := ⟨0, [(44, (.int .u32), false), (44, (.int .u32), false)], [(6, .val (.int .i64)), (7, .val (.list (.int .u32))), (8, .own 0), (9, .val (.int .i64)), (10, .own 1), (11, .val (.int .i64))]⟩
def s4 : PSig := ⟨0, [(44, (.int .u32), false), (44, (.int .u32), false), (44, (.int .u32), false)], [(6, .val (.int .i64)), (8, .own 0), (10, .own 1), (12, .own 2), (60, .val (.int .i64)), (61, .val (.int .i64))]⟩
def fws : Nat → List (FuncId × FW) := fun k => [(118, ⟨[(.list (.int .u32)), (.int .i64)], 44, (.int .u32), false, fun (x : (List Int) × Int) => nat_moved.f k x.1 x.2⟩), (96, ⟨[(.list (.int .u32))], 44, (.int .u32), false, fun (x : (List Int)) => nat_own.f k x⟩)]
def ptL : List (Pt (TD [(.list (.int .u32)), (.list (.int .u32))])) := [⟨0, s0, fun k (x : (List Int) × (List Int) × Int × (List Int) × Int × Int) => nat_long.p0 k x.1 x.2.1 x.2.2.1 x.2.2.2.1 x.2.2.2.2.1 x.2.2.2.2.2⟩, ⟨4, s4, fun k (x : (List Int) × (List Int) × (List Int) × Int × Int × Int) => nat_long.p4 k x.1 x.2.1 x.2.2.1 x.2.2.2.1 x.2.2.2.2.1 x.2.2.2.2.2⟩]
def fns : Nat → List (FuncId × FS) := fun k => [(124, ⟨[(.int .u32)], [(.int .i64)], fun (x : Int) => bits_LeadingZeros32.f k x⟩)]
def fgs : Nat → List (FuncId × FG) := fun k => [(125, ⟨[.win 44 (.int .u32), .val (.list (.int .u32))], [(.int .u32)], fun (x : (List Int) × Nat × Nat × (List Int)) => nat_digit.f k x.1 x.2.1 x.2.2.1 x.2.2.2⟩)]
def fs (k : Nat) : FS := ⟨[(.list (.int .u32)), (.list (.int .u32))], [(.list (.int .u32)), (.list (.int .u32))], fun (x : (List Int) × (List Int)) => nat_long.f k x.1 x.2⟩
theorem ok : FnOk Try.prog 121 89 Try.f121.results.toList (Try.f121.body.getD .skip) 2 := ⟨⟨Try.f121, by kernel_rfl, by kernel_rfl, by kernel_rfl, rfl, by kernel_rfl⟩, by kernel_rfl, by decide⟩
theorem c (k : Nat) : Contract Try.prog 121 (fs k) :=
  fn_sound (ps := [(.list (.int .u32)), (.list (.int .u32))]) (rs := [(.list (.int .u32)), (.list (.int .u32))]) (pts := ptL) (fns := fns) (fgs := fgs) (fws := fws) (tys := tyTab) (main := fun k (x : (List Int) × (List Int)) => nat_long.f k x.1 x.2) ok mix tyOk ⟨⟨rfl, fun _ => rfl, fun k x => by kernel_rfl⟩, ⟨rfl, fun _ => rfl, fun k x => by kernel_rfl⟩, trivial⟩ (fun k x => by kernel_rfl) (fun k => ⟨⟨bits_LeadingZeros32.c k, trivial⟩, ⟨nat_digit.c k, trivial⟩, ⟨nat_moved.cw k, nat_own.cw k, trivial⟩⟩) k
end nat_long

namespace nat_Div
def fws : Nat → List (FuncId × FW) := fun _ => []
def ptL : List (Pt (TD [(.list (.int .u32)), (.list (.int .u32)), (.int .i64)])) := []
def fns : Nat → List (FuncId × FS) := fun k => [(105, ⟨[(.list (.int .u32))], [(.list (.int .u32))], fun (x : (List Int)) => nat_trim.f k x⟩), (75, ⟨[(.list (.int .u32)), (.list (.int .u32))], [(.int .i64)], fun (x : (List Int) × (List Int)) => nat_Cmp.f k x.1 x.2⟩), (96, ⟨[(.list (.int .u32))], [(.list (.int .u32))], fun (x : (List Int)) => nat_own.f k x⟩), (120, ⟨[(.list (.int .u32)), (.int .u32)], [(.list (.int .u32)), (.int .u32)], fun (x : (List Int) × Int) => nat_short.f k x.1 x.2⟩), (121, ⟨[(.list (.int .u32)), (.list (.int .u32))], [(.list (.int .u32)), (.list (.int .u32))], fun (x : (List Int) × (List Int)) => nat_long.f k x.1 x.2⟩)]
def fgs : Nat → List (FuncId × FG) := fun _ => []
def fs (k : Nat) : FS := ⟨[(.list (.int .u32)), (.list (.int .u32))], [(.list (.int .u32)), (.list (.int .u32)), (.int .i64)], fun (x : (List Int) × (List Int)) => nat_Div.f k x.1 x.2⟩
theorem ok : FnOk Try.prog 107 51 Try.f107.results.toList (Try.f107.body.getD .skip) 2 := ⟨⟨Try.f107, by kernel_rfl, by kernel_rfl, by kernel_rfl, rfl, by kernel_rfl⟩, by kernel_rfl, by decide⟩
theorem c (k : Nat) : Contract Try.prog 107 (fs k) :=
  fn_sound (ps := [(.list (.int .u32)), (.list (.int .u32))]) (rs := [(.list (.int .u32)), (.list (.int .u32)), (.int .i64)]) (pts := ptL) (fns := fns) (fgs := fgs) (fws := fws) (tys := tyTab) (main := fun k (x : (List Int) × (List Int)) => nat_Div.f k x.1 x.2) ok mix tyOk trivial (fun k x => by kernel_rfl) (fun k => ⟨⟨nat_trim.c k, nat_Cmp.c k, nat_own.c k, nat_short.c k, nat_long.c k, trivial⟩, trivial, trivial⟩) k
end nat_Div

namespace nat_Gcd
def s0 : PSig := ⟨0, [], [(0, .val (.list (.int .u32))), (1, .val (.list (.int .u32)))]⟩
def fws : Nat → List (FuncId × FW) := fun _ => []
def ptL : List (Pt (TD [(.list (.int .u32))])) := [⟨0, s0, fun k (x : (List Int) × (List Int)) => nat_Gcd.p0 k x.1 x.2⟩]
def fns : Nat → List (FuncId × FS) := fun k => [(96, ⟨[(.list (.int .u32))], [(.list (.int .u32))], fun (x : (List Int)) => nat_own.f k x⟩), (107, ⟨[(.list (.int .u32)), (.list (.int .u32))], [(.list (.int .u32)), (.list (.int .u32)), (.int .i64)], fun (x : (List Int) × (List Int)) => nat_Div.f k x.1 x.2⟩)]
def fgs : Nat → List (FuncId × FG) := fun _ => []
def fs (k : Nat) : FS := ⟨[(.list (.int .u32)), (.list (.int .u32))], [(.list (.int .u32))], fun (x : (List Int) × (List Int)) => nat_Gcd.f k x.1 x.2⟩
theorem ok : FnOk Try.prog 115 25 Try.f115.results.toList (Try.f115.body.getD .skip) 2 := ⟨⟨Try.f115, by kernel_rfl, by kernel_rfl, by kernel_rfl, rfl, by kernel_rfl⟩, by kernel_rfl, by decide⟩
theorem c (k : Nat) : Contract Try.prog 115 (fs k) :=
  fn_sound (ps := [(.list (.int .u32)), (.list (.int .u32))]) (rs := [(.list (.int .u32))]) (pts := ptL) (fns := fns) (fgs := fgs) (fws := fws) (tys := tyTab) (main := fun k (x : (List Int) × (List Int)) => nat_Gcd.f k x.1 x.2) ok mix tyOk ⟨⟨rfl, fun _ => rfl, fun k x => by kernel_rfl⟩, trivial⟩ (fun k x => by kernel_rfl) (fun k => ⟨⟨nat_own.c k, nat_Div.c k, trivial⟩, trivial, trivial⟩) k
end nat_Gcd

namespace whole_core
def s0 : PSig := ⟨0, [], [(0, .val (.list (.int .u32))), (3, .val (.int .i64))]⟩
def s9 : PSig := ⟨0, [], [(0, .val (.list (.int .u32))), (3, .val (.int .i64))]⟩
def fws : Nat → List (FuncId × FW) := fun _ => []
def ptL : List (Pt (TD [(.list (.int .u32))])) := [⟨0, s0, fun k (x : (List Int) × Int) => whole_core.p0 k x.1 x.2⟩, ⟨9, s9, fun k (x : (List Int) × Int) => whole_core.p9 k x.1 x.2⟩]
def fns : Nat → List (FuncId × FS) := fun _ => []
def fgs : Nat → List (FuncId × FG) := fun _ => []
def fs (k : Nat) : FS := ⟨[(.list (.int .u32))], [(.list (.int .u32))], fun (x : (List Int)) => whole_core.f k x⟩
theorem ok : FnOk Try.prog 109 22 Try.f109.results.toList (Try.f109.body.getD .skip) 1 := ⟨⟨Try.f109, by kernel_rfl, by kernel_rfl, by kernel_rfl, rfl, by kernel_rfl⟩, by kernel_rfl, by decide⟩
theorem c (k : Nat) : Contract Try.prog 109 (fs k) :=
  fn_sound (ps := [(.list (.int .u32))]) (rs := [(.list (.int .u32))]) (pts := ptL) (fns := fns) (fgs := fgs) (fws := fws) (tys := tyTab) (main := fun k (x : (List Int)) => whole_core.f k x) ok mix tyOk ⟨⟨rfl, fun _ => rfl, fun k x => by kernel_rfl⟩, ⟨rfl, fun _ => rfl, fun k x => by kernel_rfl⟩, trivial⟩ (fun k x => by kernel_rfl) (fun _ => ⟨trivial, trivial, trivial⟩) k
end whole_core

namespace whole_Sign
def fws : Nat → List (FuncId × FW) := fun _ => []
def ptL : List (Pt (TD [(.int .i64)])) := []
def fns : Nat → List (FuncId × FS) := fun k => [(109, ⟨[(.list (.int .u32))], [(.list (.int .u32))], fun (x : (List Int)) => whole_core.f k x⟩)]
def fgs : Nat → List (FuncId × FG) := fun _ => []
def fs (k : Nat) : FS := ⟨[(.st (.pair .bool (.list (.int .u32))))], [(.int .i64)], fun (x : (Bool × (List Int))) => whole_Sign.f k x⟩
theorem ok : FnOk Try.prog 79 12 Try.f79.results.toList (Try.f79.body.getD .skip) 1 := ⟨⟨Try.f79, by kernel_rfl, by kernel_rfl, by kernel_rfl, rfl, by kernel_rfl⟩, by kernel_rfl, by decide⟩
theorem c (k : Nat) : Contract Try.prog 79 (fs k) :=
  fn_sound (ps := [(.st (.pair .bool (.list (.int .u32))))]) (rs := [(.int .i64)]) (pts := ptL) (fns := fns) (fgs := fgs) (fws := fws) (tys := tyTab) (main := fun k (x : (Bool × (List Int))) => whole_Sign.f k x) ok mix tyOk trivial (fun k x => by kernel_rfl) (fun k => ⟨⟨whole_core.c k, trivial⟩, trivial, trivial⟩) k
end whole_Sign

namespace nat_Norm
def fws : Nat → List (FuncId × FW) := fun _ => []
def ptL : List (Pt (TD [(.list (.int .u32))])) := []
def fns : Nat → List (FuncId × FS) := fun k => [(96, ⟨[(.list (.int .u32))], [(.list (.int .u32))], fun (x : (List Int)) => nat_own.f k x⟩)]
def fgs : Nat → List (FuncId × FG) := fun _ => []
def fs (k : Nat) : FS := ⟨[(.list (.int .u32))], [(.list (.int .u32))], fun (x : (List Int)) => nat_Norm.f k x⟩
theorem ok : FnOk Try.prog 117 5 Try.f117.results.toList (Try.f117.body.getD .skip) 1 := ⟨⟨Try.f117, by kernel_rfl, by kernel_rfl, by kernel_rfl, rfl, by kernel_rfl⟩, by kernel_rfl, by decide⟩
theorem c (k : Nat) : Contract Try.prog 117 (fs k) :=
  fn_sound (ps := [(.list (.int .u32))]) (rs := [(.list (.int .u32))]) (pts := ptL) (fns := fns) (fgs := fgs) (fws := fws) (tys := tyTab) (main := fun k (x : (List Int)) => nat_Norm.f k x) ok mix tyOk trivial (fun k x => by kernel_rfl) (fun k => ⟨⟨nat_own.c k, trivial⟩, trivial, trivial⟩) k
end nat_Norm

namespace whole_signed
def s0 : PSig := ⟨0, [(25, (.st (.pair .bool (.list (.int .u32)))), true)], [(0, .val (.list (.int .u32))), (4, .ptr 0 []), (5, .val (.int .i64)), (10, .val (.list (.int .i64))), (11, .val (.int .i64)), (12, .val (.int .i64))]⟩
def fws : Nat → List (FuncId × FW) := fun _ => []
def ptL : List (Pt (TD [(.st (.pair .bool (.list (.int .u32))))])) := [⟨0, s0, fun k (x : (Bool × (List Int)) × (List Int) × Int × (List Int) × Int × Int) => whole_signed.p0 k x.1 x.2.1 x.2.2.1 x.2.2.2.1 x.2.2.2.2.1 x.2.2.2.2.2⟩]
def fns : Nat → List (FuncId × FS) := fun k => [(117, ⟨[(.list (.int .u32))], [(.list (.int .u32))], fun (x : (List Int)) => nat_Norm.f k x⟩)]
def fgs : Nat → List (FuncId × FG) := fun _ => []
def fs (k : Nat) : FS := ⟨[(.list (.int .u32)), (.list (.int .i64))], [(.st (.pair .bool (.list (.int .u32))))], fun (x : (List Int) × (List Int)) => whole_signed.f k x.1 x.2⟩
theorem ok : FnOk Try.prog 99 29 Try.f99.results.toList (Try.f99.body.getD .skip) 2 := ⟨⟨Try.f99, by kernel_rfl, by kernel_rfl, by kernel_rfl, rfl, by kernel_rfl⟩, by kernel_rfl, by decide⟩
theorem c (k : Nat) : Contract Try.prog 99 (fs k) :=
  fn_sound (ps := [(.list (.int .u32)), (.list (.int .i64))]) (rs := [(.st (.pair .bool (.list (.int .u32))))]) (pts := ptL) (fns := fns) (fgs := fgs) (fws := fws) (tys := tyTab) (main := fun k (x : (List Int) × (List Int)) => whole_signed.f k x.1 x.2) ok mix tyOk ⟨⟨rfl, fun _ => rfl, fun k x => by kernel_rfl⟩, trivial⟩ (fun k x => by kernel_rfl) (fun k => ⟨⟨nat_Norm.c k, trivial⟩, trivial, trivial⟩) k
end whole_signed

namespace whole_Norm
def fws : Nat → List (FuncId × FW) := fun _ => []
def ptL : List (Pt (TD [(.st (.pair .bool (.list (.int .u32))))])) := []
def fns : Nat → List (FuncId × FS) := fun k => [(79, ⟨[(.st (.pair .bool (.list (.int .u32))))], [(.int .i64)], fun (x : (Bool × (List Int))) => whole_Sign.f k x⟩), (99, ⟨[(.list (.int .u32)), (.list (.int .i64))], [(.st (.pair .bool (.list (.int .u32))))], fun (x : (List Int) × (List Int)) => whole_signed.f k x.1 x.2⟩)]
def fgs : Nat → List (FuncId × FG) := fun _ => []
def fs (k : Nat) : FS := ⟨[(.st (.pair .bool (.list (.int .u32))))], [(.st (.pair .bool (.list (.int .u32))))], fun (x : (Bool × (List Int))) => whole_Norm.f k x⟩
theorem ok : FnOk Try.prog 116 9 Try.f116.results.toList (Try.f116.body.getD .skip) 1 := ⟨⟨Try.f116, by kernel_rfl, by kernel_rfl, by kernel_rfl, rfl, by kernel_rfl⟩, by kernel_rfl, by decide⟩
theorem c (k : Nat) : Contract Try.prog 116 (fs k) :=
  fn_sound (ps := [(.st (.pair .bool (.list (.int .u32))))]) (rs := [(.st (.pair .bool (.list (.int .u32))))]) (pts := ptL) (fns := fns) (fgs := fgs) (fws := fws) (tys := tyTab) (main := fun k (x : (Bool × (List Int))) => whole_Norm.f k x) ok mix tyOk trivial (fun k x => by kernel_rfl) (fun k => ⟨⟨whole_Sign.c k, whole_signed.c k, trivial⟩, trivial, trivial⟩) k
end whole_Norm

namespace ratio_made
def fws : Nat → List (FuncId × FW) := fun _ => []
def ptL : List (Pt (TD [(.st (.pair (.st (.pair .bool (.list (.int .u32)))) (.list (.int .u32))))])) := []
def fns : Nat → List (FuncId × FS) := fun k => [(115, ⟨[(.list (.int .u32)), (.list (.int .u32))], [(.list (.int .u32))], fun (x : (List Int) × (List Int)) => nat_Gcd.f k x.1 x.2⟩), (107, ⟨[(.list (.int .u32)), (.list (.int .u32))], [(.list (.int .u32)), (.list (.int .u32)), (.int .i64)], fun (x : (List Int) × (List Int)) => nat_Div.f k x.1 x.2⟩), (116, ⟨[(.st (.pair .bool (.list (.int .u32))))], [(.st (.pair .bool (.list (.int .u32))))], fun (x : (Bool × (List Int))) => whole_Norm.f k x⟩)]
def fgs : Nat → List (FuncId × FG) := fun _ => []
def fs (k : Nat) : FS := ⟨[(.st (.pair .bool (.list (.int .u32)))), (.list (.int .u32))], [(.st (.pair (.st (.pair .bool (.list (.int .u32)))) (.list (.int .u32))))], fun (x : (Bool × (List Int)) × (List Int)) => ratio_made.f k x.1 x.2⟩
theorem ok : FnOk Try.prog 98 38 Try.f98.results.toList (Try.f98.body.getD .skip) 2 := ⟨⟨Try.f98, by kernel_rfl, by kernel_rfl, by kernel_rfl, rfl, by kernel_rfl⟩, by kernel_rfl, by decide⟩
theorem c (k : Nat) : Contract Try.prog 98 (fs k) :=
  fn_sound (ps := [(.st (.pair .bool (.list (.int .u32)))), (.list (.int .u32))]) (rs := [(.st (.pair (.st (.pair .bool (.list (.int .u32)))) (.list (.int .u32))))]) (pts := ptL) (fns := fns) (fgs := fgs) (fws := fws) (tys := tyTab) (main := fun k (x : (Bool × (List Int)) × (List Int)) => ratio_made.f k x.1 x.2) ok mix tyOk trivial (fun k x => by kernel_rfl) (fun k => ⟨⟨nat_Gcd.c k, nat_Div.c k, whole_Norm.c k, trivial⟩, trivial, trivial⟩) k
end ratio_made

namespace ratio_Norm
def fws : Nat → List (FuncId × FW) := fun _ => []
def ptL : List (Pt (TD [(.st (.pair (.st (.pair .bool (.list (.int .u32)))) (.list (.int .u32))))])) := []
def fns : Nat → List (FuncId × FS) := fun k => [(72, ⟨[(.list (.int .u32))], [(.int .i64)], fun (x : (List Int)) => nat_Bits.f k x⟩), (98, ⟨[(.st (.pair .bool (.list (.int .u32)))), (.list (.int .u32))], [(.st (.pair (.st (.pair .bool (.list (.int .u32)))) (.list (.int .u32))))], fun (x : (Bool × (List Int)) × (List Int)) => ratio_made.f k x.1 x.2⟩)]
def fgs : Nat → List (FuncId × FG) := fun _ => []
def fs (k : Nat) : FS := ⟨[(.st (.pair (.st (.pair .bool (.list (.int .u32)))) (.list (.int .u32))))], [(.st (.pair (.st (.pair .bool (.list (.int .u32)))) (.list (.int .u32))))], fun (x : ((Bool × (List Int)) × (List Int))) => ratio_Norm.f k x⟩
theorem ok : FnOk Try.prog 78 14 Try.f78.results.toList (Try.f78.body.getD .skip) 1 := ⟨⟨Try.f78, by kernel_rfl, by kernel_rfl, by kernel_rfl, rfl, by kernel_rfl⟩, by kernel_rfl, by decide⟩
theorem c (k : Nat) : Contract Try.prog 78 (fs k) :=
  fn_sound (ps := [(.st (.pair (.st (.pair .bool (.list (.int .u32)))) (.list (.int .u32))))]) (rs := [(.st (.pair (.st (.pair .bool (.list (.int .u32)))) (.list (.int .u32))))]) (pts := ptL) (fns := fns) (fgs := fgs) (fws := fws) (tys := tyTab) (main := fun k (x : ((Bool × (List Int)) × (List Int))) => ratio_Norm.f k x) ok mix tyOk trivial (fun k x => by kernel_rfl) (fun k => ⟨⟨nat_Bits.c k, ratio_made.c k, trivial⟩, trivial, trivial⟩) k
end ratio_Norm

namespace ratio_Sign
def fws : Nat → List (FuncId × FW) := fun _ => []
def ptL : List (Pt (TD [(.int .i64)])) := []
def fns : Nat → List (FuncId × FS) := fun k => [(78, ⟨[(.st (.pair (.st (.pair .bool (.list (.int .u32)))) (.list (.int .u32))))], [(.st (.pair (.st (.pair .bool (.list (.int .u32)))) (.list (.int .u32))))], fun (x : ((Bool × (List Int)) × (List Int))) => ratio_Norm.f k x⟩), (79, ⟨[(.st (.pair .bool (.list (.int .u32))))], [(.int .i64)], fun (x : (Bool × (List Int))) => whole_Sign.f k x⟩)]
def fgs : Nat → List (FuncId × FG) := fun _ => []
def fs (k : Nat) : FS := ⟨[(.st (.pair (.st (.pair .bool (.list (.int .u32)))) (.list (.int .u32))))], [(.int .i64)], fun (x : ((Bool × (List Int)) × (List Int))) => ratio_Sign.f k x⟩
theorem ok : FnOk Try.prog 43 7 Try.f43.results.toList (Try.f43.body.getD .skip) 1 := ⟨⟨Try.f43, by kernel_rfl, by kernel_rfl, by kernel_rfl, rfl, by kernel_rfl⟩, by kernel_rfl, by decide⟩
theorem c (k : Nat) : Contract Try.prog 43 (fs k) :=
  fn_sound (ps := [(.st (.pair (.st (.pair .bool (.list (.int .u32)))) (.list (.int .u32))))]) (rs := [(.int .i64)]) (pts := ptL) (fns := fns) (fgs := fgs) (fws := fws) (tys := tyTab) (main := fun k (x : ((Bool × (List Int)) × (List Int))) => ratio_Sign.f k x) ok mix tyOk trivial (fun k x => by kernel_rfl) (fun k => ⟨⟨ratio_Norm.c k, whole_Sign.c k, trivial⟩, trivial, trivial⟩) k
end ratio_Sign

namespace whole_Neg
def fws : Nat → List (FuncId × FW) := fun _ => []
def ptL : List (Pt (TD [(.st (.pair .bool (.list (.int .u32))))])) := []
def fns : Nat → List (FuncId × FS) := fun k => [(79, ⟨[(.st (.pair .bool (.list (.int .u32))))], [(.int .i64)], fun (x : (Bool × (List Int))) => whole_Sign.f k x⟩), (99, ⟨[(.list (.int .u32)), (.list (.int .i64))], [(.st (.pair .bool (.list (.int .u32))))], fun (x : (List Int) × (List Int)) => whole_signed.f k x.1 x.2⟩)]
def fgs : Nat → List (FuncId × FG) := fun _ => []
def fs (k : Nat) : FS := ⟨[(.st (.pair .bool (.list (.int .u32))))], [(.st (.pair .bool (.list (.int .u32))))], fun (x : (Bool × (List Int))) => whole_Neg.f k x⟩
theorem ok : FnOk Try.prog 97 9 Try.f97.results.toList (Try.f97.body.getD .skip) 1 := ⟨⟨Try.f97, by kernel_rfl, by kernel_rfl, by kernel_rfl, rfl, by kernel_rfl⟩, by kernel_rfl, by decide⟩
theorem c (k : Nat) : Contract Try.prog 97 (fs k) :=
  fn_sound (ps := [(.st (.pair .bool (.list (.int .u32))))]) (rs := [(.st (.pair .bool (.list (.int .u32))))]) (pts := ptL) (fns := fns) (fgs := fgs) (fws := fws) (tys := tyTab) (main := fun k (x : (Bool × (List Int))) => whole_Neg.f k x) ok mix tyOk trivial (fun k x => by kernel_rfl) (fun k => ⟨⟨whole_Sign.c k, whole_signed.c k, trivial⟩, trivial, trivial⟩) k
end whole_Neg

namespace ratio_Neg
def fws : Nat → List (FuncId × FW) := fun _ => []
def ptL : List (Pt (TD [(.st (.pair (.st (.pair .bool (.list (.int .u32)))) (.list (.int .u32))))])) := []
def fns : Nat → List (FuncId × FS) := fun k => [(78, ⟨[(.st (.pair (.st (.pair .bool (.list (.int .u32)))) (.list (.int .u32))))], [(.st (.pair (.st (.pair .bool (.list (.int .u32)))) (.list (.int .u32))))], fun (x : ((Bool × (List Int)) × (List Int))) => ratio_Norm.f k x⟩), (97, ⟨[(.st (.pair .bool (.list (.int .u32))))], [(.st (.pair .bool (.list (.int .u32))))], fun (x : (Bool × (List Int))) => whole_Neg.f k x⟩)]
def fgs : Nat → List (FuncId × FG) := fun _ => []
def fs (k : Nat) : FS := ⟨[(.st (.pair (.st (.pair .bool (.list (.int .u32)))) (.list (.int .u32))))], [(.st (.pair (.st (.pair .bool (.list (.int .u32)))) (.list (.int .u32))))], fun (x : ((Bool × (List Int)) × (List Int))) => ratio_Neg.f k x⟩
theorem ok : FnOk Try.prog 77 11 Try.f77.results.toList (Try.f77.body.getD .skip) 1 := ⟨⟨Try.f77, by kernel_rfl, by kernel_rfl, by kernel_rfl, rfl, by kernel_rfl⟩, by kernel_rfl, by decide⟩
theorem c (k : Nat) : Contract Try.prog 77 (fs k) :=
  fn_sound (ps := [(.st (.pair (.st (.pair .bool (.list (.int .u32)))) (.list (.int .u32))))]) (rs := [(.st (.pair (.st (.pair .bool (.list (.int .u32)))) (.list (.int .u32))))]) (pts := ptL) (fns := fns) (fgs := fgs) (fws := fws) (tys := tyTab) (main := fun k (x : ((Bool × (List Int)) × (List Int))) => ratio_Neg.f k x) ok mix tyOk trivial (fun k x => by kernel_rfl) (fun k => ⟨⟨ratio_Norm.c k, whole_Neg.c k, trivial⟩, trivial, trivial⟩) k
end ratio_Neg

namespace ratio_Abs
def fws : Nat → List (FuncId × FW) := fun _ => []
def ptL : List (Pt (TD [(.st (.pair (.st (.pair .bool (.list (.int .u32)))) (.list (.int .u32))))])) := []
def fns : Nat → List (FuncId × FS) := fun k => [(43, ⟨[(.st (.pair (.st (.pair .bool (.list (.int .u32)))) (.list (.int .u32))))], [(.int .i64)], fun (x : ((Bool × (List Int)) × (List Int))) => ratio_Sign.f k x⟩), (77, ⟨[(.st (.pair (.st (.pair .bool (.list (.int .u32)))) (.list (.int .u32))))], [(.st (.pair (.st (.pair .bool (.list (.int .u32)))) (.list (.int .u32))))], fun (x : ((Bool × (List Int)) × (List Int))) => ratio_Neg.f k x⟩), (78, ⟨[(.st (.pair (.st (.pair .bool (.list (.int .u32)))) (.list (.int .u32))))], [(.st (.pair (.st (.pair .bool (.list (.int .u32)))) (.list (.int .u32))))], fun (x : ((Bool × (List Int)) × (List Int))) => ratio_Norm.f k x⟩)]
def fgs : Nat → List (FuncId × FG) := fun _ => []
def fs (k : Nat) : FS := ⟨[(.st (.pair (.st (.pair .bool (.list (.int .u32)))) (.list (.int .u32))))], [(.st (.pair (.st (.pair .bool (.list (.int .u32)))) (.list (.int .u32))))], fun (x : ((Bool × (List Int)) × (List Int))) => ratio_Abs.f k x⟩
theorem ok : FnOk Try.prog 41 10 Try.f41.results.toList (Try.f41.body.getD .skip) 1 := ⟨⟨Try.f41, by kernel_rfl, by kernel_rfl, by kernel_rfl, rfl, by kernel_rfl⟩, by kernel_rfl, by decide⟩
theorem c (k : Nat) : Contract Try.prog 41 (fs k) :=
  fn_sound (ps := [(.st (.pair (.st (.pair .bool (.list (.int .u32)))) (.list (.int .u32))))]) (rs := [(.st (.pair (.st (.pair .bool (.list (.int .u32)))) (.list (.int .u32))))]) (pts := ptL) (fns := fns) (fgs := fgs) (fws := fws) (tys := tyTab) (main := fun k (x : ((Bool × (List Int)) × (List Int))) => ratio_Abs.f k x) ok mix tyOk trivial (fun k x => by kernel_rfl) (fun k => ⟨⟨ratio_Sign.c k, ratio_Neg.c k, ratio_Norm.c k, trivial⟩, trivial, trivial⟩) k
end ratio_Abs

namespace nat_Shift
def s5 : PSig := ⟨0, [], []⟩
def s0 : PSig := ⟨0, [(44, (.int .u32), false)], [(0, .val (.list (.int .u32))), (8, .val (.int .i64)), (9, .own 0), (56, .val (.int .i64)), (57, .val (.int .i64))]⟩
def s39 : PSig := ⟨0, [(44, (.int .u32), false)], [(0, .val (.list (.int .u32))), (8, .val (.int .i64)), (9, .own 0), (56, .val (.int .i64)), (57, .val (.int .i64))]⟩
def fws : Nat → List (FuncId × FW) := fun _ => []
def ptL : List (Pt (TD [(.list (.int .u32)), (.int .i64)])) := [⟨5, s5, fun k (x : Unit) => nat_Shift.p5 k x⟩, ⟨0, s0, fun k (x : (List Int) × (List Int) × Int × Int × Int) => nat_Shift.p0 k x.1 x.2.1 x.2.2.1 x.2.2.2.1 x.2.2.2.2⟩, ⟨39, s39, fun k (x : (List Int) × (List Int) × Int × Int × Int) => nat_Shift.p39 k x.1 x.2.1 x.2.2.1 x.2.2.2.1 x.2.2.2.2⟩]
def fns : Nat → List (FuncId × FS) := fun k => [(105, ⟨[(.list (.int .u32))], [(.list (.int .u32))], fun (x : (List Int)) => nat_trim.f k x⟩), (118, ⟨[(.list (.int .u32)), (.int .i64)], [(.list (.int .u32))], fun (x : (List Int) × Int) => nat_moved.f k x.1 x.2⟩), (96, ⟨[(.list (.int .u32))], [(.list (.int .u32))], fun (x : (List Int)) => nat_own.f k x⟩)]
def fgs : Nat → List (FuncId × FG) := fun _ => []
def fs (k : Nat) : FS := ⟨[(.list (.int .u32)), (.int .i64)], [(.list (.int .u32)), (.int .i64)], fun (x : (List Int) × Int) => nat_Shift.f k x.1 x.2⟩
theorem ok : FnOk Try.prog 102 93 Try.f102.results.toList (Try.f102.body.getD .skip) 2 := ⟨⟨Try.f102, by kernel_rfl, by kernel_rfl, by kernel_rfl, rfl, by kernel_rfl⟩, by kernel_rfl, by decide⟩
theorem c (k : Nat) : Contract Try.prog 102 (fs k) :=
  fn_sound (ps := [(.list (.int .u32)), (.int .i64)]) (rs := [(.list (.int .u32)), (.int .i64)]) (pts := ptL) (fns := fns) (fgs := fgs) (fws := fws) (tys := tyTab) (main := fun k (x : (List Int) × Int) => nat_Shift.f k x.1 x.2) ok mix tyOk ⟨⟨rfl, fun _ => rfl, fun k x => by kernel_rfl⟩, ⟨rfl, fun _ => rfl, fun k x => by kernel_rfl⟩, ⟨rfl, fun _ => rfl, fun k x => by kernel_rfl⟩, trivial⟩ (fun k x => by kernel_rfl) (fun k => ⟨⟨nat_trim.c k, nat_moved.c k, nat_own.c k, trivial⟩, trivial, trivial⟩) k
end nat_Shift

namespace approx_cut
def s9 : PSig := ⟨0, [], [(0, .val (.list (.int .u32))), (1, .val (.list (.int .u32)))]⟩
def fws : Nat → List (FuncId × FW) := fun _ => []
def ptL : List (Pt (TD [(.list (.int .u32)), (.list (.int .u32)), (.list (.int .u32))])) := [⟨9, s9, fun k (x : (List Int) × (List Int)) => approx_cut.p9 k x.1 x.2⟩]
def fns : Nat → List (FuncId × FS) := fun k => [(102, ⟨[(.list (.int .u32)), (.int .i64)], [(.list (.int .u32)), (.int .i64)], fun (x : (List Int) × Int) => nat_Shift.f k x.1 x.2⟩), (107, ⟨[(.list (.int .u32)), (.list (.int .u32))], [(.list (.int .u32)), (.list (.int .u32)), (.int .i64)], fun (x : (List Int) × (List Int)) => nat_Div.f k x.1 x.2⟩)]
def fgs : Nat → List (FuncId × FG) := fun _ => []
def fs (k : Nat) : FS := ⟨[(.list (.int .u32)), (.list (.int .u32)), (.int .i64)], [(.list (.int .u32)), (.list (.int .u32)), (.list (.int .u32))], fun (x : (List Int) × (List Int) × Int) => approx_cut.f k x.1 x.2.1 x.2.2⟩
theorem ok : FnOk Try.prog 73 37 Try.f73.results.toList (Try.f73.body.getD .skip) 3 := ⟨⟨Try.f73, by kernel_rfl, by kernel_rfl, by kernel_rfl, rfl, by kernel_rfl⟩, by kernel_rfl, by decide⟩
theorem c (k : Nat) : Contract Try.prog 73 (fs k) :=
  fn_sound (ps := [(.list (.int .u32)), (.list (.int .u32)), (.int .i64)]) (rs := [(.list (.int .u32)), (.list (.int .u32)), (.list (.int .u32))]) (pts := ptL) (fns := fns) (fgs := fgs) (fws := fws) (tys := tyTab) (main := fun k (x : (List Int) × (List Int) × Int) => approx_cut.f k x.1 x.2.1 x.2.2) ok mix tyOk ⟨⟨rfl, fun _ => rfl, fun k x => by kernel_rfl⟩, trivial⟩ (fun k x => by kernel_rfl) (fun k => ⟨⟨nat_Shift.c k, nat_Div.c k, trivial⟩, trivial, trivial⟩) k
end approx_cut

namespace nat_Small
def s0 : PSig := ⟨0, [], [(0, .val (.list (.int .u32))), (4, .val (.int .u64)), (12, .val (.int .i64)), (13, .val (.int .i64))]⟩
def fws : Nat → List (FuncId × FW) := fun _ => []
def ptL : List (Pt (TD [(.int .u64), .bool])) := [⟨0, s0, fun k (x : (List Int) × Int × Int × Int) => nat_Small.p0 k x.1 x.2.1 x.2.2.1 x.2.2.2⟩]
def fns : Nat → List (FuncId × FS) := fun k => [(105, ⟨[(.list (.int .u32))], [(.list (.int .u32))], fun (x : (List Int)) => nat_trim.f k x⟩)]
def fgs : Nat → List (FuncId × FG) := fun _ => []
def fs (k : Nat) : FS := ⟨[(.list (.int .u32))], [(.int .u64), .bool], fun (x : (List Int)) => nat_Small.f k x⟩
theorem ok : FnOk Try.prog 74 28 Try.f74.results.toList (Try.f74.body.getD .skip) 1 := ⟨⟨Try.f74, by kernel_rfl, by kernel_rfl, by kernel_rfl, rfl, by kernel_rfl⟩, by kernel_rfl, by decide⟩
theorem c (k : Nat) : Contract Try.prog 74 (fs k) :=
  fn_sound (ps := [(.list (.int .u32))]) (rs := [(.int .u64), .bool]) (pts := ptL) (fns := fns) (fgs := fgs) (fws := fws) (tys := tyTab) (main := fun k (x : (List Int)) => nat_Small.f k x) ok mix tyOk ⟨⟨rfl, fun _ => rfl, fun k x => by kernel_rfl⟩, trivial⟩ (fun k x => by kernel_rfl) (fun k => ⟨⟨nat_trim.c k, trivial⟩, trivial, trivial⟩) k
end nat_Small

namespace nat_Add
def s7 : PSig := ⟨0, [], [(0, .val (.list (.int .u32))), (1, .val (.list (.int .u32)))]⟩
def s0 : PSig := ⟨0, [(44, (.int .u32), false)], [(0, .val (.list (.int .u32))), (1, .val (.list (.int .u32))), (5, .own 0), (6, .val (.int .u32)), (21, .val (.int .i64)), (22, .val (.int .i64))]⟩
def s23 : PSig := ⟨0, [(44, (.int .u32), false)], [(0, .val (.list (.int .u32))), (1, .val (.list (.int .u32))), (5, .own 0), (6, .val (.int .u32)), (7, .val (.int .i64)), (8, .val (.int .u32)), (21, .val (.int .i64)), (22, .val (.int .i64))]⟩
def fws : Nat → List (FuncId × FW) := fun _ => []
def ptL : List (Pt (TD [(.list (.int .u32))])) := [⟨7, s7, fun k (x : (List Int) × (List Int)) => nat_Add.p7 k x.1 x.2⟩, ⟨0, s0, fun k (x : (List Int) × (List Int) × (List Int) × Int × Int × Int) => nat_Add.p0 k x.1 x.2.1 x.2.2.1 x.2.2.2.1 x.2.2.2.2.1 x.2.2.2.2.2⟩, ⟨23, s23, fun k (x : (List Int) × (List Int) × (List Int) × Int × Int × Int × Int × Int) => nat_Add.p23 k x.1 x.2.1 x.2.2.1 x.2.2.2.1 x.2.2.2.2.1 x.2.2.2.2.2.1 x.2.2.2.2.2.2.1 x.2.2.2.2.2.2.2⟩]
def fns : Nat → List (FuncId × FS) := fun k => [(108, ⟨[(.int .u32), (.int .u32), (.int .u32)], [(.int .u32), (.int .u32)], fun (x : Int × Int × Int) => bits_Add32.f k x.1 x.2.1 x.2.2⟩), (96, ⟨[(.list (.int .u32))], [(.list (.int .u32))], fun (x : (List Int)) => nat_own.f k x⟩)]
def fgs : Nat → List (FuncId × FG) := fun _ => []
def fs (k : Nat) : FS := ⟨[(.list (.int .u32)), (.list (.int .u32))], [(.list (.int .u32))], fun (x : (List Int) × (List Int)) => nat_Add.f k x.1 x.2⟩
theorem ok : FnOk Try.prog 76 54 Try.f76.results.toList (Try.f76.body.getD .skip) 2 := ⟨⟨Try.f76, by kernel_rfl, by kernel_rfl, by kernel_rfl, rfl, by kernel_rfl⟩, by kernel_rfl, by decide⟩
theorem c (k : Nat) : Contract Try.prog 76 (fs k) :=
  fn_sound (ps := [(.list (.int .u32)), (.list (.int .u32))]) (rs := [(.list (.int .u32))]) (pts := ptL) (fns := fns) (fgs := fgs) (fws := fws) (tys := tyTab) (main := fun k (x : (List Int) × (List Int)) => nat_Add.f k x.1 x.2) ok mix tyOk ⟨⟨rfl, fun _ => rfl, fun k x => by kernel_rfl⟩, ⟨rfl, fun _ => rfl, fun k x => by kernel_rfl⟩, ⟨rfl, fun _ => rfl, fun k x => by kernel_rfl⟩, trivial⟩ (fun k x => by kernel_rfl) (fun k => ⟨⟨bits_Add32.c k, nat_own.c k, trivial⟩, trivial, trivial⟩) k
end nat_Add

namespace approx_rounded
def s29 : PSig := ⟨0, [], [(7, .val (.int .i64)), (8, .val (.list (.int .u32))), (9, .val (.list (.int .u32))), (10, .val (.list (.int .u32)))]⟩
def s41 : PSig := ⟨0, [], [(9, .val (.list (.int .u32))), (10, .val (.list (.int .u32))), (13, .val (.int .u64))]⟩
def fws : Nat → List (FuncId × FW) := fun _ => []
def ptL : List (Pt (TD [(.int .u64), (.int .i64)])) := [⟨29, s29, fun k (x : Int × (List Int) × (List Int) × (List Int)) => approx_rounded.p29 k x.1 x.2.1 x.2.2.1 x.2.2.2⟩, ⟨41, s41, fun k (x : (List Int) × (List Int) × Int) => approx_rounded.p41 k x.1 x.2.1 x.2.2⟩]
def fns : Nat → List (FuncId × FS) := fun k => [(43, ⟨[(.st (.pair (.st (.pair .bool (.list (.int .u32)))) (.list (.int .u32))))], [(.int .i64)], fun (x : ((Bool × (List Int)) × (List Int))) => ratio_Sign.f k x⟩), (72, ⟨[(.list (.int .u32))], [(.int .i64)], fun (x : (List Int)) => nat_Bits.f k x⟩), (15, ⟨[.flt], [(.int .u64)], fun (x : Nat) => math_Float64bits.f k x⟩), (73, ⟨[(.list (.int .u32)), (.list (.int .u32)), (.int .i64)], [(.list (.int .u32)), (.list (.int .u32)), (.list (.int .u32))], fun (x : (List Int) × (List Int) × Int) => approx_cut.f k x.1 x.2.1 x.2.2⟩), (74, ⟨[(.list (.int .u32))], [(.int .u64), .bool], fun (x : (List Int)) => nat_Small.f k x⟩), (76, ⟨[(.list (.int .u32)), (.list (.int .u32))], [(.list (.int .u32))], fun (x : (List Int) × (List Int)) => nat_Add.f k x.1 x.2⟩), (75, ⟨[(.list (.int .u32)), (.list (.int .u32))], [(.int .i64)], fun (x : (List Int) × (List Int)) => nat_Cmp.f k x.1 x.2⟩)]
def fgs : Nat → List (FuncId × FG) := fun _ => []
def fs (k : Nat) : FS := ⟨[(.st (.pair (.st (.pair .bool (.list (.int .u32)))) (.list (.int .u32))))], [(.int .u64), (.int .i64)], fun (x : ((Bool × (List Int)) × (List Int))) => approx_rounded.f k x⟩
theorem ok : FnOk Try.prog 40 89 Try.f40.results.toList (Try.f40.body.getD .skip) 1 := ⟨⟨Try.f40, by kernel_rfl, by kernel_rfl, by kernel_rfl, rfl, by kernel_rfl⟩, by kernel_rfl, by decide⟩
theorem c (k : Nat) : Contract Try.prog 40 (fs k) :=
  fn_sound (ps := [(.st (.pair (.st (.pair .bool (.list (.int .u32)))) (.list (.int .u32))))]) (rs := [(.int .u64), (.int .i64)]) (pts := ptL) (fns := fns) (fgs := fgs) (fws := fws) (tys := tyTab) (main := fun k (x : ((Bool × (List Int)) × (List Int))) => approx_rounded.f k x) ok mix tyOk ⟨⟨rfl, fun _ => rfl, fun k x => by kernel_rfl⟩, ⟨rfl, fun _ => rfl, fun k x => by kernel_rfl⟩, trivial⟩ (fun k x => by kernel_rfl) (fun k => ⟨⟨ratio_Sign.c k, nat_Bits.c k, math_Float64bits.c k, approx_cut.c k, nat_Small.c k, nat_Add.c k, nat_Cmp.c k, trivial⟩, trivial, trivial⟩) k
end approx_rounded

namespace math_Float64frombits
theorem c (k : Nat) : Contract Try.prog 23 ⟨[(.int .u64)], [.flt], fun (x : Int) => math_Float64frombits.f k x⟩ :=
  float64frombits_contract (fn := Try.f23) (by kernel_rfl) (by kernel_rfl) (by kernel_rfl) (by kernel_rfl) (by kernel_rfl) (fun _ => rfl)
end math_Float64frombits

namespace approx_float
def s7 : PSig := ⟨0, [], [(0, .val (.int .u64))]⟩
def fws : Nat → List (FuncId × FW) := fun _ => []
def ptL : List (Pt (TD [.flt])) := [⟨7, s7, fun k (x : Int) => approx_float.p7 k x⟩]
def fns : Nat → List (FuncId × FS) := fun k => [(23, ⟨[(.int .u64)], [.flt], fun (x : Int) => math_Float64frombits.f k x⟩)]
def fgs : Nat → List (FuncId × FG) := fun _ => []
def fs (k : Nat) : FS := ⟨[(.int .u64), (.int .i64)], [.flt], fun (x : Int × Int) => approx_float.f k x.1 x.2⟩
theorem ok : FnOk Try.prog 42 11 Try.f42.results.toList (Try.f42.body.getD .skip) 2 := ⟨⟨Try.f42, by kernel_rfl, by kernel_rfl, by kernel_rfl, rfl, by kernel_rfl⟩, by kernel_rfl, by decide⟩
theorem c (k : Nat) : Contract Try.prog 42 (fs k) :=
  fn_sound (ps := [(.int .u64), (.int .i64)]) (rs := [.flt]) (pts := ptL) (fns := fns) (fgs := fgs) (fws := fws) (tys := tyTab) (main := fun k (x : Int × Int) => approx_float.f k x.1 x.2) ok mix tyOk ⟨⟨rfl, fun _ => rfl, fun k x => by kernel_rfl⟩, trivial⟩ (fun k x => by kernel_rfl) (fun k => ⟨⟨math_Float64frombits.c k, trivial⟩, trivial, trivial⟩) k
end approx_float

namespace approx_Nearest
def s7 : PSig := ⟨0, [(27, (.st (.pair (.st (.pair .bool (.list (.int .u32)))) (.list (.int .u32)))), true)], [(1, .ptr 0 []), (3, .val (.int .u64))]⟩
def s9 : PSig := ⟨0, [(27, (.st (.pair (.st (.pair .bool (.list (.int .u32)))) (.list (.int .u32)))), true)], [(1, .ptr 0 []), (3, .val (.int .u64))]⟩
def fws : Nat → List (FuncId × FW) := fun _ => []
def ptL : List (Pt (TD [.flt])) := [⟨7, s7, fun k (x : ((Bool × (List Int)) × (List Int)) × Int) => approx_Nearest.p7 k x.1 x.2⟩, ⟨9, s9, fun k (x : ((Bool × (List Int)) × (List Int)) × Int) => approx_Nearest.p9 k x.1 x.2⟩]
def fns : Nat → List (FuncId × FS) := fun k => [(41, ⟨[(.st (.pair (.st (.pair .bool (.list (.int .u32)))) (.list (.int .u32))))], [(.st (.pair (.st (.pair .bool (.list (.int .u32)))) (.list (.int .u32))))], fun (x : ((Bool × (List Int)) × (List Int))) => ratio_Abs.f k x⟩), (40, ⟨[(.st (.pair (.st (.pair .bool (.list (.int .u32)))) (.list (.int .u32))))], [(.int .u64), (.int .i64)], fun (x : ((Bool × (List Int)) × (List Int))) => approx_rounded.f k x⟩), (43, ⟨[(.st (.pair (.st (.pair .bool (.list (.int .u32)))) (.list (.int .u32))))], [(.int .i64)], fun (x : ((Bool × (List Int)) × (List Int))) => ratio_Sign.f k x⟩), (42, ⟨[(.int .u64), (.int .i64)], [.flt], fun (x : Int × Int) => approx_float.f k x.1 x.2⟩)]
def fgs : Nat → List (FuncId × FG) := fun _ => []
def fs (k : Nat) : FS := ⟨[(.st (.pair (.st (.pair .bool (.list (.int .u32)))) (.list (.int .u32))))], [.flt], fun (x : ((Bool × (List Int)) × (List Int))) => approx_Nearest.f k x⟩
theorem ok : FnOk Try.prog 11 28 Try.f11.results.toList (Try.f11.body.getD .skip) 1 := ⟨⟨Try.f11, by kernel_rfl, by kernel_rfl, by kernel_rfl, rfl, by kernel_rfl⟩, by kernel_rfl, by decide⟩
theorem c (k : Nat) : Contract Try.prog 11 (fs k) :=
  fn_sound (ps := [(.st (.pair (.st (.pair .bool (.list (.int .u32)))) (.list (.int .u32))))]) (rs := [.flt]) (pts := ptL) (fns := fns) (fgs := fgs) (fws := fws) (tys := tyTab) (main := fun k (x : ((Bool × (List Int)) × (List Int))) => approx_Nearest.f k x) ok mix tyOk ⟨⟨rfl, fun _ => rfl, fun k x => by kernel_rfl⟩, ⟨rfl, fun _ => rfl, fun k x => by kernel_rfl⟩, trivial⟩ (fun k x => by kernel_rfl) (fun k => ⟨⟨ratio_Abs.c k, approx_rounded.c k, ratio_Sign.c k, approx_float.c k, trivial⟩, trivial, trivial⟩) k
end approx_Nearest

namespace ref01_Norm
def s0 : PSig := ⟨0, [], [(0, .val (.list (.int .u32))), (3, .val (.int .i64))]⟩
def s9 : PSig := ⟨0, [], [(0, .val (.list (.int .u32))), (3, .val (.int .i64))]⟩
def s4 : PSig := ⟨0, [(44, (.int .u32), false)], [(0, .val (.list (.int .u32))), (3, .val (.int .i64)), (4, .own 0), (5, .val (.int .i64))]⟩
def fws : Nat → List (FuncId × FW) := fun _ => []
def ptL : List (Pt (TD [(.list (.int .u32))])) := [⟨0, s0, fun k (x : (List Int) × Int) => ref01_Norm.p0 k x.1 x.2⟩, ⟨9, s9, fun k (x : (List Int) × Int) => ref01_Norm.p9 k x.1 x.2⟩, ⟨4, s4, fun k (x : (List Int) × (List Int) × Int × Int) => ref01_Norm.p4 k x.1 x.2.1 x.2.2.1 x.2.2.2⟩]
def fns : Nat → List (FuncId × FS) := fun _ => []
def fgs : Nat → List (FuncId × FG) := fun _ => []
def fs (k : Nat) : FS := ⟨[(.list (.int .u32))], [(.list (.int .u32))], fun (x : (List Int)) => ref01_Norm.f k x⟩
theorem ok : FnOk Try.prog 84 35 Try.f84.results.toList (Try.f84.body.getD .skip) 1 := ⟨⟨Try.f84, by kernel_rfl, by kernel_rfl, by kernel_rfl, rfl, by kernel_rfl⟩, by kernel_rfl, by decide⟩
theorem c (k : Nat) : Contract Try.prog 84 (fs k) :=
  fn_sound (ps := [(.list (.int .u32))]) (rs := [(.list (.int .u32))]) (pts := ptL) (fns := fns) (fgs := fgs) (fws := fws) (tys := tyTab) (main := fun k (x : (List Int)) => ref01_Norm.f k x) ok mix tyOk ⟨⟨rfl, fun _ => rfl, fun k x => by kernel_rfl⟩, ⟨rfl, fun _ => rfl, fun k x => by kernel_rfl⟩, ⟨rfl, fun _ => rfl, fun k x => by kernel_rfl⟩, trivial⟩ (fun k x => by kernel_rfl) (fun _ => ⟨trivial, trivial, trivial⟩) k
end ref01_Norm

namespace ref02_made
def fws : Nat → List (FuncId × FW) := fun _ => []
def ptL : List (Pt (TD [(.st (.pair .bool (.list (.int .u32))))])) := []
def fns : Nat → List (FuncId × FS) := fun k => [(84, ⟨[(.list (.int .u32))], [(.list (.int .u32))], fun (x : (List Int)) => ref01_Norm.f k x⟩)]
def fgs : Nat → List (FuncId × FG) := fun _ => []
def fs (k : Nat) : FS := ⟨[.bool, (.list (.int .u32))], [(.st (.pair .bool (.list (.int .u32))))], fun (x : Bool × (List Int)) => ref02_made.f k x.1 x.2⟩
theorem ok : FnOk Try.prog 87 16 Try.f87.results.toList (Try.f87.body.getD .skip) 2 := ⟨⟨Try.f87, by kernel_rfl, by kernel_rfl, by kernel_rfl, rfl, by kernel_rfl⟩, by kernel_rfl, by decide⟩
theorem c (k : Nat) : Contract Try.prog 87 (fs k) :=
  fn_sound (ps := [.bool, (.list (.int .u32))]) (rs := [(.st (.pair .bool (.list (.int .u32))))]) (pts := ptL) (fns := fns) (fgs := fgs) (fws := fws) (tys := tyTab) (main := fun k (x : Bool × (List Int)) => ref02_made.f k x.1 x.2) ok mix tyOk trivial (fun k x => by kernel_rfl) (fun k => ⟨⟨ref01_Norm.c k, trivial⟩, trivial, trivial⟩) k
end ref02_made

namespace ref02_Norm
def fws : Nat → List (FuncId × FW) := fun _ => []
def ptL : List (Pt (TD [(.st (.pair .bool (.list (.int .u32))))])) := []
def fns : Nat → List (FuncId × FS) := fun k => [(87, ⟨[.bool, (.list (.int .u32))], [(.st (.pair .bool (.list (.int .u32))))], fun (x : Bool × (List Int)) => ref02_made.f k x.1 x.2⟩)]
def fgs : Nat → List (FuncId × FG) := fun _ => []
def fs (k : Nat) : FS := ⟨[(.st (.pair .bool (.list (.int .u32))))], [(.st (.pair .bool (.list (.int .u32))))], fun (x : (Bool × (List Int))) => ref02_Norm.f k x⟩
theorem ok : FnOk Try.prog 83 8 Try.f83.results.toList (Try.f83.body.getD .skip) 1 := ⟨⟨Try.f83, by kernel_rfl, by kernel_rfl, by kernel_rfl, rfl, by kernel_rfl⟩, by kernel_rfl, by decide⟩
theorem c (k : Nat) : Contract Try.prog 83 (fs k) :=
  fn_sound (ps := [(.st (.pair .bool (.list (.int .u32))))]) (rs := [(.st (.pair .bool (.list (.int .u32))))]) (pts := ptL) (fns := fns) (fgs := fgs) (fws := fws) (tys := tyTab) (main := fun k (x : (Bool × (List Int))) => ref02_Norm.f k x) ok mix tyOk trivial (fun k x => by kernel_rfl) (fun k => ⟨⟨ref02_made.c k, trivial⟩, trivial, trivial⟩) k
end ref02_Norm

namespace ref01_at
def fws : Nat → List (FuncId × FW) := fun _ => []
def ptL : List (Pt (TD [(.int .u64)])) := []
def fns : Nat → List (FuncId × FS) := fun _ => []
def fgs : Nat → List (FuncId × FG) := fun _ => []
def fs (k : Nat) : FS := ⟨[(.list (.int .u32)), (.int .i64)], [(.int .u64)], fun (x : (List Int) × Int) => ref01_at.f k x.1 x.2⟩
theorem ok : FnOk Try.prog 114 14 Try.f114.results.toList (Try.f114.body.getD .skip) 2 := ⟨⟨Try.f114, by kernel_rfl, by kernel_rfl, by kernel_rfl, rfl, by kernel_rfl⟩, by kernel_rfl, by decide⟩
theorem c (k : Nat) : Contract Try.prog 114 (fs k) :=
  fn_sound (ps := [(.list (.int .u32)), (.int .i64)]) (rs := [(.int .u64)]) (pts := ptL) (fns := fns) (fgs := fgs) (fws := fws) (tys := tyTab) (main := fun k (x : (List Int) × Int) => ref01_at.f k x.1 x.2) ok mix tyOk trivial (fun k x => by kernel_rfl) (fun _ => ⟨trivial, trivial, trivial⟩) k
end ref01_at

namespace ref01_Cmp
def s9 : PSig := ⟨0, [], [(0, .val (.list (.int .u32))), (1, .val (.list (.int .u32))), (5, .val (.int .i64))]⟩
def s0 : PSig := ⟨0, [], [(0, .val (.list (.int .u32))), (1, .val (.list (.int .u32))), (6, .val (.int .i64))]⟩
def fws : Nat → List (FuncId × FW) := fun _ => []
def ptL : List (Pt (TD [(.int .i64)])) := [⟨9, s9, fun k (x : (List Int) × (List Int) × Int) => ref01_Cmp.p9 k x.1 x.2.1 x.2.2⟩, ⟨0, s0, fun k (x : (List Int) × (List Int) × Int) => ref01_Cmp.p0 k x.1 x.2.1 x.2.2⟩]
def fns : Nat → List (FuncId × FS) := fun k => [(114, ⟨[(.list (.int .u32)), (.int .i64)], [(.int .u64)], fun (x : (List Int) × Int) => ref01_at.f k x.1 x.2⟩)]
def fgs : Nat → List (FuncId × FG) := fun _ => []
def fs (k : Nat) : FS := ⟨[(.list (.int .u32)), (.list (.int .u32))], [(.int .i64)], fun (x : (List Int) × (List Int)) => ref01_Cmp.f k x.1 x.2⟩
theorem ok : FnOk Try.prog 89 35 Try.f89.results.toList (Try.f89.body.getD .skip) 2 := ⟨⟨Try.f89, by kernel_rfl, by kernel_rfl, by kernel_rfl, rfl, by kernel_rfl⟩, by kernel_rfl, by decide⟩
theorem c (k : Nat) : Contract Try.prog 89 (fs k) :=
  fn_sound (ps := [(.list (.int .u32)), (.list (.int .u32))]) (rs := [(.int .i64)]) (pts := ptL) (fns := fns) (fgs := fgs) (fws := fws) (tys := tyTab) (main := fun k (x : (List Int) × (List Int)) => ref01_Cmp.f k x.1 x.2) ok mix tyOk ⟨⟨rfl, fun _ => rfl, fun k x => by kernel_rfl⟩, ⟨rfl, fun _ => rfl, fun k x => by kernel_rfl⟩, trivial⟩ (fun k x => by kernel_rfl) (fun k => ⟨⟨ref01_at.c k, trivial⟩, trivial, trivial⟩) k
end ref01_Cmp

namespace ref01_Bit
def fws : Nat → List (FuncId × FW) := fun _ => []
def ptL : List (Pt (TD [.bool])) := []
def fns : Nat → List (FuncId × FS) := fun _ => []
def fgs : Nat → List (FuncId × FG) := fun _ => []
def fs (k : Nat) : FS := ⟨[(.list (.int .u32)), (.int .i64)], [.bool], fun (x : (List Int) × Int) => ref01_Bit.f k x.1 x.2⟩
theorem ok : FnOk Try.prog 112 27 Try.f112.results.toList (Try.f112.body.getD .skip) 2 := ⟨⟨Try.f112, by kernel_rfl, by kernel_rfl, by kernel_rfl, rfl, by kernel_rfl⟩, by kernel_rfl, by decide⟩
theorem c (k : Nat) : Contract Try.prog 112 (fs k) :=
  fn_sound (ps := [(.list (.int .u32)), (.int .i64)]) (rs := [.bool]) (pts := ptL) (fns := fns) (fgs := fgs) (fws := fws) (tys := tyTab) (main := fun k (x : (List Int) × Int) => ref01_Bit.f k x.1 x.2) ok mix tyOk trivial (fun k x => by kernel_rfl) (fun _ => ⟨trivial, trivial, trivial⟩) k
end ref01_Bit

namespace ref01_Shift
def s5 : PSig := ⟨0, [], []⟩
def s17 : PSig := ⟨0, [], [(0, .val (.list (.int .u32))), (1, .val (.int .i64)), (6, .val (.int .i64))]⟩
def s29 : PSig := ⟨0, [(44, (.int .u32), false)], [(0, .val (.list (.int .u32))), (6, .val (.int .i64)), (7, .own 0), (8, .val (.int .i64)), (9, .val (.int .i64))]⟩
def s0 : PSig := ⟨0, [(44, (.int .u32), false)], [(0, .val (.list (.int .u32))), (6, .val (.int .i64)), (7, .own 0), (8, .val (.int .i64)), (9, .val (.int .i64)), (10, .val (.int .i64))]⟩
def s41 : PSig := ⟨0, [(44, (.int .u32), false)], [(0, .val (.list (.int .u32))), (6, .val (.int .i64)), (7, .own 0), (8, .val (.int .i64)), (9, .val (.int .i64)), (10, .val (.int .i64)), (11, .val (.int .u64))]⟩
def s33 : PSig := ⟨0, [(44, (.int .u32), false)], [(0, .val (.list (.int .u32))), (6, .val (.int .i64)), (7, .own 0), (8, .val (.int .i64)), (9, .val (.int .i64)), (10, .val (.int .i64))]⟩
def fws : Nat → List (FuncId × FW) := fun _ => []
def ptL : List (Pt (TD [(.list (.int .u32)), (.int .i64)])) := [⟨5, s5, fun k (x : Unit) => ref01_Shift.p5 k x⟩, ⟨17, s17, fun k (x : (List Int) × Int × Int) => ref01_Shift.p17 k x.1 x.2.1 x.2.2⟩, ⟨29, s29, fun k (x : (List Int) × (List Int) × Int × Int × Int) => ref01_Shift.p29 k x.1 x.2.1 x.2.2.1 x.2.2.2.1 x.2.2.2.2⟩, ⟨0, s0, fun k (x : (List Int) × (List Int) × Int × Int × Int × Int) => ref01_Shift.p0 k x.1 x.2.1 x.2.2.1 x.2.2.2.1 x.2.2.2.2.1 x.2.2.2.2.2⟩, ⟨41, s41, fun k (x : (List Int) × (List Int) × Int × Int × Int × Int × Int) => ref01_Shift.p41 k x.1 x.2.1 x.2.2.1 x.2.2.2.1 x.2.2.2.2.1 x.2.2.2.2.2.1 x.2.2.2.2.2.2⟩, ⟨33, s33, fun k (x : (List Int) × (List Int) × Int × Int × Int × Int) => ref01_Shift.p33 k x.1 x.2.1 x.2.2.1 x.2.2.2.1 x.2.2.2.2.1 x.2.2.2.2.2⟩]
def fns : Nat → List (FuncId × FS) := fun k => [(84, ⟨[(.list (.int .u32))], [(.list (.int .u32))], fun (x : (List Int)) => ref01_Norm.f k x⟩)]
def fgs : Nat → List (FuncId × FG) := fun _ => []
def fs (k : Nat) : FS := ⟨[(.list (.int .u32)), (.int .i64)], [(.list (.int .u32)), (.int .i64)], fun (x : (List Int) × Int) => ref01_Shift.f k x.1 x.2⟩
theorem ok : FnOk Try.prog 91 106 Try.f91.results.toList (Try.f91.body.getD .skip) 2 := ⟨⟨Try.f91, by kernel_rfl, by kernel_rfl, by kernel_rfl, rfl, by kernel_rfl⟩, by kernel_rfl, by decide⟩
theorem c (k : Nat) : Contract Try.prog 91 (fs k) :=
  fn_sound (ps := [(.list (.int .u32)), (.int .i64)]) (rs := [(.list (.int .u32)), (.int .i64)]) (pts := ptL) (fns := fns) (fgs := fgs) (fws := fws) (tys := tyTab) (main := fun k (x : (List Int) × Int) => ref01_Shift.f k x.1 x.2) ok mix tyOk ⟨⟨rfl, fun _ => rfl, fun k x => by kernel_rfl⟩, ⟨rfl, fun _ => rfl, fun k x => by kernel_rfl⟩, ⟨rfl, fun _ => rfl, fun k x => by kernel_rfl⟩, ⟨rfl, fun _ => rfl, fun k x => by kernel_rfl⟩, ⟨rfl, fun _ => rfl, fun k x => by kernel_rfl⟩, ⟨rfl, fun _ => rfl, fun k x => by kernel_rfl⟩, trivial⟩ (fun k x => by kernel_rfl) (fun k => ⟨⟨ref01_Norm.c k, trivial⟩, trivial, trivial⟩) k
end ref01_Shift

namespace ref01_Sub
def s0 : PSig := ⟨0, [(44, (.int .u32), false)], [(0, .val (.list (.int .u32))), (1, .val (.list (.int .u32))), (6, .own 0), (7, .val (.int .u64)), (8, .val (.int .i64))]⟩
def fws : Nat → List (FuncId × FW) := fun _ => []
def ptL : List (Pt (TD [(.list (.int .u32)), (.int .i64)])) := [⟨0, s0, fun k (x : (List Int) × (List Int) × (List Int) × Int × Int) => ref01_Sub.p0 k x.1 x.2.1 x.2.2.1 x.2.2.2.1 x.2.2.2.2⟩]
def fns : Nat → List (FuncId × FS) := fun k => [(89, ⟨[(.list (.int .u32)), (.list (.int .u32))], [(.int .i64)], fun (x : (List Int) × (List Int)) => ref01_Cmp.f k x.1 x.2⟩), (114, ⟨[(.list (.int .u32)), (.int .i64)], [(.int .u64)], fun (x : (List Int) × Int) => ref01_at.f k x.1 x.2⟩), (84, ⟨[(.list (.int .u32))], [(.list (.int .u32))], fun (x : (List Int)) => ref01_Norm.f k x⟩)]
def fgs : Nat → List (FuncId × FG) := fun _ => []
def fs (k : Nat) : FS := ⟨[(.list (.int .u32)), (.list (.int .u32))], [(.list (.int .u32)), (.int .i64)], fun (x : (List Int) × (List Int)) => ref01_Sub.f k x.1 x.2⟩
theorem ok : FnOk Try.prog 90 41 Try.f90.results.toList (Try.f90.body.getD .skip) 2 := ⟨⟨Try.f90, by kernel_rfl, by kernel_rfl, by kernel_rfl, rfl, by kernel_rfl⟩, by kernel_rfl, by decide⟩
theorem c (k : Nat) : Contract Try.prog 90 (fs k) :=
  fn_sound (ps := [(.list (.int .u32)), (.list (.int .u32))]) (rs := [(.list (.int .u32)), (.int .i64)]) (pts := ptL) (fns := fns) (fgs := fgs) (fws := fws) (tys := tyTab) (main := fun k (x : (List Int) × (List Int)) => ref01_Sub.f k x.1 x.2) ok mix tyOk ⟨⟨rfl, fun _ => rfl, fun k x => by kernel_rfl⟩, trivial⟩ (fun k x => by kernel_rfl) (fun k => ⟨⟨ref01_Cmp.c k, ref01_at.c k, ref01_Norm.c k, trivial⟩, trivial, trivial⟩) k
end ref01_Sub

namespace ref01_twice
def s11 : PSig := ⟨0, [(44, (.int .u32), false)], [(0, .val (.list (.int .u32))), (5, .own 0), (6, .val (.int .u32))]⟩
def s0 : PSig := ⟨0, [(44, (.int .u32), false)], [(0, .val (.list (.int .u32))), (5, .own 0), (6, .val (.int .u32)), (7, .val (.int .i64))]⟩
def fws : Nat → List (FuncId × FW) := fun _ => []
def ptL : List (Pt (TD [(.list (.int .u32))])) := [⟨11, s11, fun k (x : (List Int) × (List Int) × Int) => ref01_twice.p11 k x.1 x.2.1 x.2.2⟩, ⟨0, s0, fun k (x : (List Int) × (List Int) × Int × Int) => ref01_twice.p0 k x.1 x.2.1 x.2.2.1 x.2.2.2⟩]
def fns : Nat → List (FuncId × FS) := fun k => [(84, ⟨[(.list (.int .u32))], [(.list (.int .u32))], fun (x : (List Int)) => ref01_Norm.f k x⟩)]
def fgs : Nat → List (FuncId × FG) := fun _ => []
def fs (k : Nat) : FS := ⟨[(.list (.int .u32)), .bool], [(.list (.int .u32))], fun (x : (List Int) × Bool) => ref01_twice.f k x.1 x.2⟩
theorem ok : FnOk Try.prog 113 41 Try.f113.results.toList (Try.f113.body.getD .skip) 2 := ⟨⟨Try.f113, by kernel_rfl, by kernel_rfl, by kernel_rfl, rfl, by kernel_rfl⟩, by kernel_rfl, by decide⟩
theorem c (k : Nat) : Contract Try.prog 113 (fs k) :=
  fn_sound (ps := [(.list (.int .u32)), .bool]) (rs := [(.list (.int .u32))]) (pts := ptL) (fns := fns) (fgs := fgs) (fws := fws) (tys := tyTab) (main := fun k (x : (List Int) × Bool) => ref01_twice.f k x.1 x.2) ok mix tyOk ⟨⟨rfl, fun _ => rfl, fun k x => by kernel_rfl⟩, ⟨rfl, fun _ => rfl, fun k x => by kernel_rfl⟩, trivial⟩ (fun k x => by kernel_rfl) (fun k => ⟨⟨ref01_Norm.c k, trivial⟩, trivial, trivial⟩) k
end ref01_twice

namespace ref01_Gcd
def s19 : PSig := ⟨0, [], [(5, .val (.list (.int .u32)))]⟩
def s0 : PSig := ⟨0, [], [(0, .val (.list (.int .u32))), (1, .val (.list (.int .u32))), (6, .val (.int .i64))]⟩
def s4 : PSig := ⟨0, [], [(0, .val (.list (.int .u32))), (1, .val (.list (.int .u32))), (6, .val (.int .i64))]⟩
def s8 : PSig := ⟨0, [], [(0, .val (.list (.int .u32))), (1, .val (.list (.int .u32))), (6, .val (.int .i64))]⟩
def s16 : PSig := ⟨0, [], [(0, .val (.list (.int .u32))), (6, .val (.int .i64)), (7, .val (.int .i64))]⟩
def s12 : PSig := ⟨0, [], [(0, .val (.list (.int .u32))), (1, .val (.list (.int .u32))), (6, .val (.int .i64))]⟩
def s45 : PSig := ⟨0, [], [(0, .val (.list (.int .u32))), (1, .val (.list (.int .u32))), (6, .val (.int .i64))]⟩
def fws : Nat → List (FuncId × FW) := fun _ => []
def ptL : List (Pt (TD [(.list (.int .u32))])) := [⟨19, s19, fun k (x : (List Int)) => ref01_Gcd.p19 k x⟩, ⟨0, s0, fun k (x : (List Int) × (List Int) × Int) => ref01_Gcd.p0 k x.1 x.2.1 x.2.2⟩, ⟨4, s4, fun k (x : (List Int) × (List Int) × Int) => ref01_Gcd.p4 k x.1 x.2.1 x.2.2⟩, ⟨8, s8, fun k (x : (List Int) × (List Int) × Int) => ref01_Gcd.p8 k x.1 x.2.1 x.2.2⟩, ⟨16, s16, fun k (x : (List Int) × Int × Int) => ref01_Gcd.p16 k x.1 x.2.1 x.2.2⟩, ⟨12, s12, fun k (x : (List Int) × (List Int) × Int) => ref01_Gcd.p12 k x.1 x.2.1 x.2.2⟩, ⟨45, s45, fun k (x : (List Int) × (List Int) × Int) => ref01_Gcd.p45 k x.1 x.2.1 x.2.2⟩]
def fns : Nat → List (FuncId × FS) := fun k => [(84, ⟨[(.list (.int .u32))], [(.list (.int .u32))], fun (x : (List Int)) => ref01_Norm.f k x⟩), (89, ⟨[(.list (.int .u32)), (.list (.int .u32))], [(.int .i64)], fun (x : (List Int) × (List Int)) => ref01_Cmp.f k x.1 x.2⟩), (112, ⟨[(.list (.int .u32)), (.int .i64)], [.bool], fun (x : (List Int) × Int) => ref01_Bit.f k x.1 x.2⟩), (91, ⟨[(.list (.int .u32)), (.int .i64)], [(.list (.int .u32)), (.int .i64)], fun (x : (List Int) × Int) => ref01_Shift.f k x.1 x.2⟩), (113, ⟨[(.list (.int .u32)), .bool], [(.list (.int .u32))], fun (x : (List Int) × Bool) => ref01_twice.f k x.1 x.2⟩), (90, ⟨[(.list (.int .u32)), (.list (.int .u32))], [(.list (.int .u32)), (.int .i64)], fun (x : (List Int) × (List Int)) => ref01_Sub.f k x.1 x.2⟩)]
def fgs : Nat → List (FuncId × FG) := fun _ => []
def fs (k : Nat) : FS := ⟨[(.list (.int .u32)), (.list (.int .u32))], [(.list (.int .u32))], fun (x : (List Int) × (List Int)) => ref01_Gcd.f k x.1 x.2⟩
theorem ok : FnOk Try.prog 85 91 Try.f85.results.toList (Try.f85.body.getD .skip) 2 := ⟨⟨Try.f85, by kernel_rfl, by kernel_rfl, by kernel_rfl, rfl, by kernel_rfl⟩, by kernel_rfl, by decide⟩
theorem c (k : Nat) : Contract Try.prog 85 (fs k) :=
  fn_sound (ps := [(.list (.int .u32)), (.list (.int .u32))]) (rs := [(.list (.int .u32))]) (pts := ptL) (fns := fns) (fgs := fgs) (fws := fws) (tys := tyTab) (main := fun k (x : (List Int) × (List Int)) => ref01_Gcd.f k x.1 x.2) ok mix tyOk ⟨⟨rfl, fun _ => rfl, fun k x => by kernel_rfl⟩, ⟨rfl, fun _ => rfl, fun k x => by kernel_rfl⟩, ⟨rfl, fun _ => rfl, fun k x => by kernel_rfl⟩, ⟨rfl, fun _ => rfl, fun k x => by kernel_rfl⟩, ⟨rfl, fun _ => rfl, fun k x => by kernel_rfl⟩, ⟨rfl, fun _ => rfl, fun k x => by kernel_rfl⟩, ⟨rfl, fun _ => rfl, fun k x => by kernel_rfl⟩, trivial⟩ (fun k x => by kernel_rfl) (fun k => ⟨⟨ref01_Norm.c k, ref01_Cmp.c k, ref01_Bit.c k, ref01_Shift.c k, ref01_twice.c k, ref01_Sub.c k, trivial⟩, trivial, trivial⟩) k
end ref01_Gcd

namespace ref01_Div
def s19 : PSig := ⟨0, [(44, (.int .u32), false)], [(0, .val (.list (.int .u32))), (1, .val (.list (.int .u32))), (7, .own 0), (8, .val (.int .i64))]⟩
def s0 : PSig := ⟨0, [(44, (.int .u32), false)], [(0, .val (.list (.int .u32))), (1, .val (.list (.int .u32))), (7, .own 0), (9, .val (.list (.int .u32))), (10, .val (.int .i64))]⟩
def s25 : PSig := ⟨0, [(44, (.int .u32), false)], [(0, .val (.list (.int .u32))), (1, .val (.list (.int .u32))), (7, .own 0), (9, .val (.list (.int .u32))), (10, .val (.int .i64))]⟩
def fws : Nat → List (FuncId × FW) := fun _ => []
def ptL : List (Pt (TD [(.list (.int .u32)), (.list (.int .u32)), (.int .i64)])) := [⟨19, s19, fun k (x : (List Int) × (List Int) × (List Int) × Int) => ref01_Div.p19 k x.1 x.2.1 x.2.2.1 x.2.2.2⟩, ⟨0, s0, fun k (x : (List Int) × (List Int) × (List Int) × (List Int) × Int) => ref01_Div.p0 k x.1 x.2.1 x.2.2.1 x.2.2.2.1 x.2.2.2.2⟩, ⟨25, s25, fun k (x : (List Int) × (List Int) × (List Int) × (List Int) × Int) => ref01_Div.p25 k x.1 x.2.1 x.2.2.1 x.2.2.2.1 x.2.2.2.2⟩]
def fns : Nat → List (FuncId × FS) := fun k => [(84, ⟨[(.list (.int .u32))], [(.list (.int .u32))], fun (x : (List Int)) => ref01_Norm.f k x⟩), (112, ⟨[(.list (.int .u32)), (.int .i64)], [.bool], fun (x : (List Int) × Int) => ref01_Bit.f k x.1 x.2⟩), (113, ⟨[(.list (.int .u32)), .bool], [(.list (.int .u32))], fun (x : (List Int) × Bool) => ref01_twice.f k x.1 x.2⟩), (89, ⟨[(.list (.int .u32)), (.list (.int .u32))], [(.int .i64)], fun (x : (List Int) × (List Int)) => ref01_Cmp.f k x.1 x.2⟩), (90, ⟨[(.list (.int .u32)), (.list (.int .u32))], [(.list (.int .u32)), (.int .i64)], fun (x : (List Int) × (List Int)) => ref01_Sub.f k x.1 x.2⟩)]
def fgs : Nat → List (FuncId × FG) := fun _ => []
def fs (k : Nat) : FS := ⟨[(.list (.int .u32)), (.list (.int .u32))], [(.list (.int .u32)), (.list (.int .u32)), (.int .i64)], fun (x : (List Int) × (List Int)) => ref01_Div.f k x.1 x.2⟩
theorem ok : FnOk Try.prog 86 76 Try.f86.results.toList (Try.f86.body.getD .skip) 2 := ⟨⟨Try.f86, by kernel_rfl, by kernel_rfl, by kernel_rfl, rfl, by kernel_rfl⟩, by kernel_rfl, by decide⟩
theorem c (k : Nat) : Contract Try.prog 86 (fs k) :=
  fn_sound (ps := [(.list (.int .u32)), (.list (.int .u32))]) (rs := [(.list (.int .u32)), (.list (.int .u32)), (.int .i64)]) (pts := ptL) (fns := fns) (fgs := fgs) (fws := fws) (tys := tyTab) (main := fun k (x : (List Int) × (List Int)) => ref01_Div.f k x.1 x.2) ok mix tyOk ⟨⟨rfl, fun _ => rfl, fun k x => by kernel_rfl⟩, ⟨rfl, fun _ => rfl, fun k x => by kernel_rfl⟩, ⟨rfl, fun _ => rfl, fun k x => by kernel_rfl⟩, trivial⟩ (fun k x => by kernel_rfl) (fun k => ⟨⟨ref01_Norm.c k, ref01_Bit.c k, ref01_twice.c k, ref01_Cmp.c k, ref01_Sub.c k, trivial⟩, trivial, trivial⟩) k
end ref01_Div

namespace ref03_Norm
def s9 : PSig := ⟨0, [(27, (.st (.pair (.st (.pair .bool (.list (.int .u32)))) (.list (.int .u32)))), true)], [(2, .ptr 0 [])]⟩
def fws : Nat → List (FuncId × FW) := fun _ => []
def ptL : List (Pt (TD [(.st (.pair (.st (.pair .bool (.list (.int .u32)))) (.list (.int .u32))))])) := [⟨9, s9, fun k (x : ((Bool × (List Int)) × (List Int))) => ref03_Norm.p9 k x⟩]
def fns : Nat → List (FuncId × FS) := fun k => [(83, ⟨[(.st (.pair .bool (.list (.int .u32))))], [(.st (.pair .bool (.list (.int .u32))))], fun (x : (Bool × (List Int))) => ref02_Norm.f k x⟩), (84, ⟨[(.list (.int .u32))], [(.list (.int .u32))], fun (x : (List Int)) => ref01_Norm.f k x⟩), (85, ⟨[(.list (.int .u32)), (.list (.int .u32))], [(.list (.int .u32))], fun (x : (List Int) × (List Int)) => ref01_Gcd.f k x.1 x.2⟩), (86, ⟨[(.list (.int .u32)), (.list (.int .u32))], [(.list (.int .u32)), (.list (.int .u32)), (.int .i64)], fun (x : (List Int) × (List Int)) => ref01_Div.f k x.1 x.2⟩)]
def fgs : Nat → List (FuncId × FG) := fun _ => []
def fs (k : Nat) : FS := ⟨[(.st (.pair (.st (.pair .bool (.list (.int .u32)))) (.list (.int .u32))))], [(.st (.pair (.st (.pair .bool (.list (.int .u32)))) (.list (.int .u32))))], fun (x : ((Bool × (List Int)) × (List Int))) => ref03_Norm.f k x⟩
theorem ok : FnOk Try.prog 45 55 Try.f45.results.toList (Try.f45.body.getD .skip) 1 := ⟨⟨Try.f45, by kernel_rfl, by kernel_rfl, by kernel_rfl, rfl, by kernel_rfl⟩, by kernel_rfl, by decide⟩
theorem c (k : Nat) : Contract Try.prog 45 (fs k) :=
  fn_sound (ps := [(.st (.pair (.st (.pair .bool (.list (.int .u32)))) (.list (.int .u32))))]) (rs := [(.st (.pair (.st (.pair .bool (.list (.int .u32)))) (.list (.int .u32))))]) (pts := ptL) (fns := fns) (fgs := fgs) (fws := fws) (tys := tyTab) (main := fun k (x : ((Bool × (List Int)) × (List Int))) => ref03_Norm.f k x) ok mix tyOk ⟨⟨rfl, fun _ => rfl, fun k x => by kernel_rfl⟩, trivial⟩ (fun k x => by kernel_rfl) (fun k => ⟨⟨ref02_Norm.c k, ref01_Norm.c k, ref01_Gcd.c k, ref01_Div.c k, trivial⟩, trivial, trivial⟩) k
end ref03_Norm

namespace ref02_Sign
def fws : Nat → List (FuncId × FW) := fun _ => []
def ptL : List (Pt (TD [(.int .i64)])) := []
def fns : Nat → List (FuncId × FS) := fun k => [(83, ⟨[(.st (.pair .bool (.list (.int .u32))))], [(.st (.pair .bool (.list (.int .u32))))], fun (x : (Bool × (List Int))) => ref02_Norm.f k x⟩)]
def fgs : Nat → List (FuncId × FG) := fun _ => []
def fs (k : Nat) : FS := ⟨[(.st (.pair .bool (.list (.int .u32))))], [(.int .i64)], fun (x : (Bool × (List Int))) => ref02_Sign.f k x⟩
theorem ok : FnOk Try.prog 46 12 Try.f46.results.toList (Try.f46.body.getD .skip) 1 := ⟨⟨Try.f46, by kernel_rfl, by kernel_rfl, by kernel_rfl, rfl, by kernel_rfl⟩, by kernel_rfl, by decide⟩
theorem c (k : Nat) : Contract Try.prog 46 (fs k) :=
  fn_sound (ps := [(.st (.pair .bool (.list (.int .u32))))]) (rs := [(.int .i64)]) (pts := ptL) (fns := fns) (fgs := fgs) (fws := fws) (tys := tyTab) (main := fun k (x : (Bool × (List Int))) => ref02_Sign.f k x) ok mix tyOk trivial (fun k x => by kernel_rfl) (fun k => ⟨⟨ref02_Norm.c k, trivial⟩, trivial, trivial⟩) k
end ref02_Sign

namespace ref03_Sign
def fws : Nat → List (FuncId × FW) := fun _ => []
def ptL : List (Pt (TD [(.int .i64)])) := []
def fns : Nat → List (FuncId × FS) := fun k => [(45, ⟨[(.st (.pair (.st (.pair .bool (.list (.int .u32)))) (.list (.int .u32))))], [(.st (.pair (.st (.pair .bool (.list (.int .u32)))) (.list (.int .u32))))], fun (x : ((Bool × (List Int)) × (List Int))) => ref03_Norm.f k x⟩), (46, ⟨[(.st (.pair .bool (.list (.int .u32))))], [(.int .i64)], fun (x : (Bool × (List Int))) => ref02_Sign.f k x⟩)]
def fgs : Nat → List (FuncId × FG) := fun _ => []
def fs (k : Nat) : FS := ⟨[(.st (.pair (.st (.pair .bool (.list (.int .u32)))) (.list (.int .u32))))], [(.int .i64)], fun (x : ((Bool × (List Int)) × (List Int))) => ref03_Sign.f k x⟩
theorem ok : FnOk Try.prog 16 7 Try.f16.results.toList (Try.f16.body.getD .skip) 1 := ⟨⟨Try.f16, by kernel_rfl, by kernel_rfl, by kernel_rfl, rfl, by kernel_rfl⟩, by kernel_rfl, by decide⟩
theorem c (k : Nat) : Contract Try.prog 16 (fs k) :=
  fn_sound (ps := [(.st (.pair (.st (.pair .bool (.list (.int .u32)))) (.list (.int .u32))))]) (rs := [(.int .i64)]) (pts := ptL) (fns := fns) (fgs := fgs) (fws := fws) (tys := tyTab) (main := fun k (x : ((Bool × (List Int)) × (List Int))) => ref03_Sign.f k x) ok mix tyOk trivial (fun k x => by kernel_rfl) (fun k => ⟨⟨ref03_Norm.c k, ref02_Sign.c k, trivial⟩, trivial, trivial⟩) k
end ref03_Sign

namespace ref02_Neg
def fws : Nat → List (FuncId × FW) := fun _ => []
def ptL : List (Pt (TD [(.st (.pair .bool (.list (.int .u32))))])) := []
def fns : Nat → List (FuncId × FS) := fun k => [(87, ⟨[.bool, (.list (.int .u32))], [(.st (.pair .bool (.list (.int .u32))))], fun (x : Bool × (List Int)) => ref02_made.f k x.1 x.2⟩)]
def fgs : Nat → List (FuncId × FG) := fun _ => []
def fs (k : Nat) : FS := ⟨[(.st (.pair .bool (.list (.int .u32))))], [(.st (.pair .bool (.list (.int .u32))))], fun (x : (Bool × (List Int))) => ref02_Neg.f k x⟩
theorem ok : FnOk Try.prog 57 9 Try.f57.results.toList (Try.f57.body.getD .skip) 1 := ⟨⟨Try.f57, by kernel_rfl, by kernel_rfl, by kernel_rfl, rfl, by kernel_rfl⟩, by kernel_rfl, by decide⟩
theorem c (k : Nat) : Contract Try.prog 57 (fs k) :=
  fn_sound (ps := [(.st (.pair .bool (.list (.int .u32))))]) (rs := [(.st (.pair .bool (.list (.int .u32))))]) (pts := ptL) (fns := fns) (fgs := fgs) (fws := fws) (tys := tyTab) (main := fun k (x : (Bool × (List Int))) => ref02_Neg.f k x) ok mix tyOk trivial (fun k x => by kernel_rfl) (fun k => ⟨⟨ref02_made.c k, trivial⟩, trivial, trivial⟩) k
end ref02_Neg

namespace ref03_Neg
def fws : Nat → List (FuncId × FW) := fun _ => []
def ptL : List (Pt (TD [(.st (.pair (.st (.pair .bool (.list (.int .u32)))) (.list (.int .u32))))])) := []
def fns : Nat → List (FuncId × FS) := fun k => [(45, ⟨[(.st (.pair (.st (.pair .bool (.list (.int .u32)))) (.list (.int .u32))))], [(.st (.pair (.st (.pair .bool (.list (.int .u32)))) (.list (.int .u32))))], fun (x : ((Bool × (List Int)) × (List Int))) => ref03_Norm.f k x⟩), (57, ⟨[(.st (.pair .bool (.list (.int .u32))))], [(.st (.pair .bool (.list (.int .u32))))], fun (x : (Bool × (List Int))) => ref02_Neg.f k x⟩)]
def fgs : Nat → List (FuncId × FG) := fun _ => []
def fs (k : Nat) : FS := ⟨[(.st (.pair (.st (.pair .bool (.list (.int .u32)))) (.list (.int .u32))))], [(.st (.pair (.st (.pair .bool (.list (.int .u32)))) (.list (.int .u32))))], fun (x : ((Bool × (List Int)) × (List Int))) => ref03_Neg.f k x⟩
theorem ok : FnOk Try.prog 25 12 Try.f25.results.toList (Try.f25.body.getD .skip) 1 := ⟨⟨Try.f25, by kernel_rfl, by kernel_rfl, by kernel_rfl, rfl, by kernel_rfl⟩, by kernel_rfl, by decide⟩
theorem c (k : Nat) : Contract Try.prog 25 (fs k) :=
  fn_sound (ps := [(.st (.pair (.st (.pair .bool (.list (.int .u32)))) (.list (.int .u32))))]) (rs := [(.st (.pair (.st (.pair .bool (.list (.int .u32)))) (.list (.int .u32))))]) (pts := ptL) (fns := fns) (fgs := fgs) (fws := fws) (tys := tyTab) (main := fun k (x : ((Bool × (List Int)) × (List Int))) => ref03_Neg.f k x) ok mix tyOk trivial (fun k x => by kernel_rfl) (fun k => ⟨⟨ref03_Norm.c k, ref02_Neg.c k, trivial⟩, trivial, trivial⟩) k
end ref03_Neg

namespace ref03_Abs
def fws : Nat → List (FuncId × FW) := fun _ => []
def ptL : List (Pt (TD [(.st (.pair (.st (.pair .bool (.list (.int .u32)))) (.list (.int .u32))))])) := []
def fns : Nat → List (FuncId × FS) := fun k => [(16, ⟨[(.st (.pair (.st (.pair .bool (.list (.int .u32)))) (.list (.int .u32))))], [(.int .i64)], fun (x : ((Bool × (List Int)) × (List Int))) => ref03_Sign.f k x⟩), (25, ⟨[(.st (.pair (.st (.pair .bool (.list (.int .u32)))) (.list (.int .u32))))], [(.st (.pair (.st (.pair .bool (.list (.int .u32)))) (.list (.int .u32))))], fun (x : ((Bool × (List Int)) × (List Int))) => ref03_Neg.f k x⟩), (45, ⟨[(.st (.pair (.st (.pair .bool (.list (.int .u32)))) (.list (.int .u32))))], [(.st (.pair (.st (.pair .bool (.list (.int .u32)))) (.list (.int .u32))))], fun (x : ((Bool × (List Int)) × (List Int))) => ref03_Norm.f k x⟩)]
def fgs : Nat → List (FuncId × FG) := fun _ => []
def fs (k : Nat) : FS := ⟨[(.st (.pair (.st (.pair .bool (.list (.int .u32)))) (.list (.int .u32))))], [(.st (.pair (.st (.pair .bool (.list (.int .u32)))) (.list (.int .u32))))], fun (x : ((Bool × (List Int)) × (List Int))) => ref03_Abs.f k x⟩
theorem ok : FnOk Try.prog 13 10 Try.f13.results.toList (Try.f13.body.getD .skip) 1 := ⟨⟨Try.f13, by kernel_rfl, by kernel_rfl, by kernel_rfl, rfl, by kernel_rfl⟩, by kernel_rfl, by decide⟩
theorem c (k : Nat) : Contract Try.prog 13 (fs k) :=
  fn_sound (ps := [(.st (.pair (.st (.pair .bool (.list (.int .u32)))) (.list (.int .u32))))]) (rs := [(.st (.pair (.st (.pair .bool (.list (.int .u32)))) (.list (.int .u32))))]) (pts := ptL) (fns := fns) (fgs := fgs) (fws := fws) (tys := tyTab) (main := fun k (x : ((Bool × (List Int)) × (List Int))) => ref03_Abs.f k x) ok mix tyOk trivial (fun k x => by kernel_rfl) (fun k => ⟨⟨ref03_Sign.c k, ref03_Neg.c k, ref03_Norm.c k, trivial⟩, trivial, trivial⟩) k
end ref03_Abs

namespace ref01_Bits
def s0 : PSig := ⟨0, [], [(0, .val (.list (.int .u32))), (3, .val (.int .i64))]⟩
def fws : Nat → List (FuncId × FW) := fun _ => []
def ptL : List (Pt (TD [(.int .i64)])) := [⟨0, s0, fun k (x : (List Int) × Int) => ref01_Bits.p0 k x.1 x.2⟩]
def fns : Nat → List (FuncId × FS) := fun k => [(112, ⟨[(.list (.int .u32)), (.int .i64)], [.bool], fun (x : (List Int) × Int) => ref01_Bit.f k x.1 x.2⟩)]
def fgs : Nat → List (FuncId × FG) := fun _ => []
def fs (k : Nat) : FS := ⟨[(.list (.int .u32))], [(.int .i64)], fun (x : (List Int)) => ref01_Bits.f k x⟩
theorem ok : FnOk Try.prog 93 17 Try.f93.results.toList (Try.f93.body.getD .skip) 1 := ⟨⟨Try.f93, by kernel_rfl, by kernel_rfl, by kernel_rfl, rfl, by kernel_rfl⟩, by kernel_rfl, by decide⟩
theorem c (k : Nat) : Contract Try.prog 93 (fs k) :=
  fn_sound (ps := [(.list (.int .u32))]) (rs := [(.int .i64)]) (pts := ptL) (fns := fns) (fgs := fgs) (fws := fws) (tys := tyTab) (main := fun k (x : (List Int)) => ref01_Bits.f k x) ok mix tyOk ⟨⟨rfl, fun _ => rfl, fun k x => by kernel_rfl⟩, trivial⟩ (fun k x => by kernel_rfl) (fun k => ⟨⟨ref01_Bit.c k, trivial⟩, trivial, trivial⟩) k
end ref01_Bits

namespace ref04_amount
def s9 : PSig := ⟨0, [(27, (.st (.pair (.st (.pair .bool (.list (.int .u32)))) (.list (.int .u32)))), true), (27, (.st (.pair (.st (.pair .bool (.list (.int .u32)))) (.list (.int .u32)))), true)], [(2, .ptr 0 []), (4, .ptr 1 [])]⟩
def fws : Nat → List (FuncId × FW) := fun _ => []
def ptL : List (Pt (TD [(.st (.pair (.st (.pair .bool (.list (.int .u32)))) (.list (.int .u32)))), (.int .u64)])) := [⟨9, s9, fun k (x : ((Bool × (List Int)) × (List Int)) × ((Bool × (List Int)) × (List Int))) => ref04_amount.p9 k x.1 x.2⟩]
def fns : Nat → List (FuncId × FS) := fun k => [(93, ⟨[(.list (.int .u32))], [(.int .i64)], fun (x : (List Int)) => ref01_Bits.f k x⟩)]
def fgs : Nat → List (FuncId × FG) := fun _ => []
def fs (k : Nat) : FS := ⟨[(.st (.pair (.st (.pair .bool (.list (.int .u32)))) (.list (.int .u32))))], [(.st (.pair (.st (.pair .bool (.list (.int .u32)))) (.list (.int .u32)))), (.int .u64)], fun (x : ((Bool × (List Int)) × (List Int))) => ref04_amount.f k x⟩
theorem ok : FnOk Try.prog 80 30 Try.f80.results.toList (Try.f80.body.getD .skip) 1 := ⟨⟨Try.f80, by kernel_rfl, by kernel_rfl, by kernel_rfl, rfl, by kernel_rfl⟩, by kernel_rfl, by decide⟩
theorem c (k : Nat) : Contract Try.prog 80 (fs k) :=
  fn_sound (ps := [(.st (.pair (.st (.pair .bool (.list (.int .u32)))) (.list (.int .u32))))]) (rs := [(.st (.pair (.st (.pair .bool (.list (.int .u32)))) (.list (.int .u32)))), (.int .u64)]) (pts := ptL) (fns := fns) (fgs := fgs) (fws := fws) (tys := tyTab) (main := fun k (x : ((Bool × (List Int)) × (List Int))) => ref04_amount.f k x) ok mix tyOk ⟨⟨rfl, fun _ => rfl, fun k x => by kernel_rfl⟩, trivial⟩ (fun k x => by kernel_rfl) (fun k => ⟨⟨ref01_Bits.c k, trivial⟩, trivial, trivial⟩) k
end ref04_amount

namespace ref04_quotient
def s13 : PSig := ⟨0, [], [(6, .val (.list (.int .u32))), (7, .val (.list (.int .u32)))]⟩
def fws : Nat → List (FuncId × FW) := fun _ => []
def ptL : List (Pt (TD [(.list (.int .u32)), .bool])) := [⟨13, s13, fun k (x : (List Int) × (List Int)) => ref04_quotient.p13 k x.1 x.2⟩]
def fns : Nat → List (FuncId × FS) := fun k => [(91, ⟨[(.list (.int .u32)), (.int .i64)], [(.list (.int .u32)), (.int .i64)], fun (x : (List Int) × Int) => ref01_Shift.f k x.1 x.2⟩), (86, ⟨[(.list (.int .u32)), (.list (.int .u32))], [(.list (.int .u32)), (.list (.int .u32)), (.int .i64)], fun (x : (List Int) × (List Int)) => ref01_Div.f k x.1 x.2⟩), (93, ⟨[(.list (.int .u32))], [(.int .i64)], fun (x : (List Int)) => ref01_Bits.f k x⟩)]
def fgs : Nat → List (FuncId × FG) := fun _ => []
def fs (k : Nat) : FS := ⟨[(.st (.pair (.st (.pair .bool (.list (.int .u32)))) (.list (.int .u32)))), (.int .i64)], [(.list (.int .u32)), .bool], fun (x : ((Bool × (List Int)) × (List Int)) × Int) => ref04_quotient.f k x.1 x.2⟩
theorem ok : FnOk Try.prog 110 42 Try.f110.results.toList (Try.f110.body.getD .skip) 2 := ⟨⟨Try.f110, by kernel_rfl, by kernel_rfl, by kernel_rfl, rfl, by kernel_rfl⟩, by kernel_rfl, by decide⟩
theorem c (k : Nat) : Contract Try.prog 110 (fs k) :=
  fn_sound (ps := [(.st (.pair (.st (.pair .bool (.list (.int .u32)))) (.list (.int .u32)))), (.int .i64)]) (rs := [(.list (.int .u32)), .bool]) (pts := ptL) (fns := fns) (fgs := fgs) (fws := fws) (tys := tyTab) (main := fun k (x : ((Bool × (List Int)) × (List Int)) × Int) => ref04_quotient.f k x.1 x.2) ok mix tyOk ⟨⟨rfl, fun _ => rfl, fun k x => by kernel_rfl⟩, trivial⟩ (fun k x => by kernel_rfl) (fun k => ⟨⟨ref01_Shift.c k, ref01_Div.c k, ref01_Bits.c k, trivial⟩, trivial, trivial⟩) k
end ref04_quotient

namespace ref01_Small
def s0 : PSig := ⟨0, [], [(0, .val (.list (.int .u32))), (4, .val (.int .u64)), (5, .val (.int .i64))]⟩
def fws : Nat → List (FuncId × FW) := fun _ => []
def ptL : List (Pt (TD [(.int .u64), .bool])) := [⟨0, s0, fun k (x : (List Int) × Int × Int) => ref01_Small.p0 k x.1 x.2.1 x.2.2⟩]
def fns : Nat → List (FuncId × FS) := fun k => [(84, ⟨[(.list (.int .u32))], [(.list (.int .u32))], fun (x : (List Int)) => ref01_Norm.f k x⟩)]
def fgs : Nat → List (FuncId × FG) := fun _ => []
def fs (k : Nat) : FS := ⟨[(.list (.int .u32))], [(.int .u64), .bool], fun (x : (List Int)) => ref01_Small.f k x⟩
theorem ok : FnOk Try.prog 111 27 Try.f111.results.toList (Try.f111.body.getD .skip) 1 := ⟨⟨Try.f111, by kernel_rfl, by kernel_rfl, by kernel_rfl, rfl, by kernel_rfl⟩, by kernel_rfl, by decide⟩
theorem c (k : Nat) : Contract Try.prog 111 (fs k) :=
  fn_sound (ps := [(.list (.int .u32))]) (rs := [(.int .u64), .bool]) (pts := ptL) (fns := fns) (fgs := fgs) (fws := fws) (tys := tyTab) (main := fun k (x : (List Int)) => ref01_Small.f k x) ok mix tyOk ⟨⟨rfl, fun _ => rfl, fun k x => by kernel_rfl⟩, trivial⟩ (fun k x => by kernel_rfl) (fun k => ⟨⟨ref01_Norm.c k, trivial⟩, trivial, trivial⟩) k
end ref01_Small

namespace ref04_below
def s5 : PSig := ⟨0, [], []⟩
def s23 : PSig := ⟨0, [(27, (.st (.pair (.st (.pair .bool (.list (.int .u32)))) (.list (.int .u32)))), true)], [(1, .ptr 0 []), (5, .val (.int .i64))]⟩
def s0 : PSig := ⟨0, [(27, (.st (.pair (.st (.pair .bool (.list (.int .u32)))) (.list (.int .u32)))), true)], [(1, .ptr 0 []), (5, .val (.int .i64)), (6, .val (.list (.int .u32))), (7, .val .bool)]⟩
def fws : Nat → List (FuncId × FW) := fun _ => []
def ptL : List (Pt (TD [(.int .u64), .bool])) := [⟨5, s5, fun k (x : Unit) => ref04_below.p5 k x⟩, ⟨23, s23, fun k (x : ((Bool × (List Int)) × (List Int)) × Int) => ref04_below.p23 k x.1 x.2⟩, ⟨0, s0, fun k (x : ((Bool × (List Int)) × (List Int)) × Int × (List Int) × Bool) => ref04_below.p0 k x.1 x.2.1 x.2.2.1 x.2.2.2⟩]
def fns : Nat → List (FuncId × FS) := fun k => [(93, ⟨[(.list (.int .u32))], [(.int .i64)], fun (x : (List Int)) => ref01_Bits.f k x⟩), (110, ⟨[(.st (.pair (.st (.pair .bool (.list (.int .u32)))) (.list (.int .u32)))), (.int .i64)], [(.list (.int .u32)), .bool], fun (x : ((Bool × (List Int)) × (List Int)) × Int) => ref04_quotient.f k x.1 x.2⟩), (111, ⟨[(.list (.int .u32))], [(.int .u64), .bool], fun (x : (List Int)) => ref01_Small.f k x⟩)]
def fgs : Nat → List (FuncId × FG) := fun _ => []
def fs (k : Nat) : FS := ⟨[(.st (.pair (.st (.pair .bool (.list (.int .u32)))) (.list (.int .u32))))], [(.int .u64), .bool], fun (x : ((Bool × (List Int)) × (List Int))) => ref04_below.f k x⟩
theorem ok : FnOk Try.prog 82 73 Try.f82.results.toList (Try.f82.body.getD .skip) 1 := ⟨⟨Try.f82, by kernel_rfl, by kernel_rfl, by kernel_rfl, rfl, by kernel_rfl⟩, by kernel_rfl, by decide⟩
theorem c (k : Nat) : Contract Try.prog 82 (fs k) :=
  fn_sound (ps := [(.st (.pair (.st (.pair .bool (.list (.int .u32)))) (.list (.int .u32))))]) (rs := [(.int .u64), .bool]) (pts := ptL) (fns := fns) (fgs := fgs) (fws := fws) (tys := tyTab) (main := fun k (x : ((Bool × (List Int)) × (List Int))) => ref04_below.f k x) ok mix tyOk ⟨⟨rfl, fun _ => rfl, fun k x => by kernel_rfl⟩, ⟨rfl, fun _ => rfl, fun k x => by kernel_rfl⟩, ⟨rfl, fun _ => rfl, fun k x => by kernel_rfl⟩, trivial⟩ (fun k x => by kernel_rfl) (fun k => ⟨⟨ref01_Bits.c k, ref04_quotient.c k, ref01_Small.c k, trivial⟩, trivial, trivial⟩) k
end ref04_below

namespace ref04_away
def fws : Nat → List (FuncId × FW) := fun _ => []
def ptL : List (Pt (TD [(.int .u64)])) := []
def fns : Nat → List (FuncId × FS) := fun k => [(82, ⟨[(.st (.pair (.st (.pair .bool (.list (.int .u32)))) (.list (.int .u32))))], [(.int .u64), .bool], fun (x : ((Bool × (List Int)) × (List Int))) => ref04_below.f k x⟩)]
def fgs : Nat → List (FuncId × FG) := fun _ => []
def fs (k : Nat) : FS := ⟨[(.st (.pair (.st (.pair .bool (.list (.int .u32)))) (.list (.int .u32))))], [(.int .u64)], fun (x : ((Bool × (List Int)) × (List Int))) => ref04_away.f k x⟩
theorem ok : FnOk Try.prog 81 14 Try.f81.results.toList (Try.f81.body.getD .skip) 1 := ⟨⟨Try.f81, by kernel_rfl, by kernel_rfl, by kernel_rfl, rfl, by kernel_rfl⟩, by kernel_rfl, by decide⟩
theorem c (k : Nat) : Contract Try.prog 81 (fs k) :=
  fn_sound (ps := [(.st (.pair (.st (.pair .bool (.list (.int .u32)))) (.list (.int .u32))))]) (rs := [(.int .u64)]) (pts := ptL) (fns := fns) (fgs := fgs) (fws := fws) (tys := tyTab) (main := fun k (x : ((Bool × (List Int)) × (List Int))) => ref04_away.f k x) ok mix tyOk trivial (fun k x => by kernel_rfl) (fun k => ⟨⟨ref04_below.c k, trivial⟩, trivial, trivial⟩) k
end ref04_away

namespace ref04_UpBits
def fws : Nat → List (FuncId × FW) := fun _ => []
def ptL : List (Pt (TD [(.int .u64)])) := []
def fns : Nat → List (FuncId × FS) := fun k => [(80, ⟨[(.st (.pair (.st (.pair .bool (.list (.int .u32)))) (.list (.int .u32))))], [(.st (.pair (.st (.pair .bool (.list (.int .u32)))) (.list (.int .u32)))), (.int .u64)], fun (x : ((Bool × (List Int)) × (List Int))) => ref04_amount.f k x⟩), (81, ⟨[(.st (.pair (.st (.pair .bool (.list (.int .u32)))) (.list (.int .u32))))], [(.int .u64)], fun (x : ((Bool × (List Int)) × (List Int))) => ref04_away.f k x⟩), (82, ⟨[(.st (.pair (.st (.pair .bool (.list (.int .u32)))) (.list (.int .u32))))], [(.int .u64), .bool], fun (x : ((Bool × (List Int)) × (List Int))) => ref04_below.f k x⟩)]
def fgs : Nat → List (FuncId × FG) := fun _ => []
def fs (k : Nat) : FS := ⟨[(.st (.pair (.st (.pair .bool (.list (.int .u32)))) (.list (.int .u32))))], [(.int .u64)], fun (x : ((Bool × (List Int)) × (List Int))) => ref04_UpBits.f k x⟩
theorem ok : FnOk Try.prog 44 24 Try.f44.results.toList (Try.f44.body.getD .skip) 1 := ⟨⟨Try.f44, by kernel_rfl, by kernel_rfl, by kernel_rfl, rfl, by kernel_rfl⟩, by kernel_rfl, by decide⟩
theorem c (k : Nat) : Contract Try.prog 44 (fs k) :=
  fn_sound (ps := [(.st (.pair (.st (.pair .bool (.list (.int .u32)))) (.list (.int .u32))))]) (rs := [(.int .u64)]) (pts := ptL) (fns := fns) (fgs := fgs) (fws := fws) (tys := tyTab) (main := fun k (x : ((Bool × (List Int)) × (List Int))) => ref04_UpBits.f k x) ok mix tyOk trivial (fun k x => by kernel_rfl) (fun k => ⟨⟨ref04_amount.c k, ref04_away.c k, ref04_below.c k, trivial⟩, trivial, trivial⟩) k
end ref04_UpBits

namespace ref04_Up
def fws : Nat → List (FuncId × FW) := fun _ => []
def ptL : List (Pt (TD [.flt])) := []
def fns : Nat → List (FuncId × FS) := fun k => [(44, ⟨[(.st (.pair (.st (.pair .bool (.list (.int .u32)))) (.list (.int .u32))))], [(.int .u64)], fun (x : ((Bool × (List Int)) × (List Int))) => ref04_UpBits.f k x⟩), (23, ⟨[(.int .u64)], [.flt], fun (x : Int) => math_Float64frombits.f k x⟩)]
def fgs : Nat → List (FuncId × FG) := fun _ => []
def fs (k : Nat) : FS := ⟨[(.st (.pair (.st (.pair .bool (.list (.int .u32)))) (.list (.int .u32))))], [.flt], fun (x : ((Bool × (List Int)) × (List Int))) => ref04_Up.f k x⟩
theorem ok : FnOk Try.prog 12 6 Try.f12.results.toList (Try.f12.body.getD .skip) 1 := ⟨⟨Try.f12, by kernel_rfl, by kernel_rfl, by kernel_rfl, rfl, by kernel_rfl⟩, by kernel_rfl, by decide⟩
theorem c (k : Nat) : Contract Try.prog 12 (fs k) :=
  fn_sound (ps := [(.st (.pair (.st (.pair .bool (.list (.int .u32)))) (.list (.int .u32))))]) (rs := [.flt]) (pts := ptL) (fns := fns) (fgs := fgs) (fws := fws) (tys := tyTab) (main := fun k (x : ((Bool × (List Int)) × (List Int))) => ref04_Up.f k x) ok mix tyOk trivial (fun k x => by kernel_rfl) (fun k => ⟨⟨ref04_UpBits.c k, math_Float64frombits.c k, trivial⟩, trivial, trivial⟩) k
end ref04_Up

namespace ref04_parts
def fws : Nat → List (FuncId × FW) := fun _ => []
def ptL : List (Pt (TD [(.int .u64), (.int .i64)])) := []
def fns : Nat → List (FuncId × FS) := fun _ => []
def fgs : Nat → List (FuncId × FG) := fun _ => []
def fs (k : Nat) : FS := ⟨[(.int .u64)], [(.int .u64), (.int .i64)], fun (x : Int) => ref04_parts.f k x⟩
theorem ok : FnOk Try.prog 52 18 Try.f52.results.toList (Try.f52.body.getD .skip) 1 := ⟨⟨Try.f52, by kernel_rfl, by kernel_rfl, by kernel_rfl, rfl, by kernel_rfl⟩, by kernel_rfl, by decide⟩
theorem c (k : Nat) : Contract Try.prog 52 (fs k) :=
  fn_sound (ps := [(.int .u64)]) (rs := [(.int .u64), (.int .i64)]) (pts := ptL) (fns := fns) (fgs := fgs) (fws := fws) (tys := tyTab) (main := fun k (x : Int) => ref04_parts.f k x) ok mix tyOk trivial (fun k x => by kernel_rfl) (fun _ => ⟨trivial, trivial, trivial⟩) k
end ref04_parts

namespace ref01_Of
def fws : Nat → List (FuncId × FW) := fun _ => []
def ptL : List (Pt (TD [(.list (.int .u32))])) := []
def fns : Nat → List (FuncId × FS) := fun k => [(84, ⟨[(.list (.int .u32))], [(.list (.int .u32))], fun (x : (List Int)) => ref01_Norm.f k x⟩)]
def fgs : Nat → List (FuncId × FG) := fun _ => []
def fs (k : Nat) : FS := ⟨[(.int .u64)], [(.list (.int .u32))], fun (x : Int) => ref01_Of.f k x⟩
theorem ok : FnOk Try.prog 54 10 Try.f54.results.toList (Try.f54.body.getD .skip) 1 := ⟨⟨Try.f54, by kernel_rfl, by kernel_rfl, by kernel_rfl, rfl, by kernel_rfl⟩, by kernel_rfl, by decide⟩
theorem c (k : Nat) : Contract Try.prog 54 (fs k) :=
  fn_sound (ps := [(.int .u64)]) (rs := [(.list (.int .u32))]) (pts := ptL) (fns := fns) (fgs := fgs) (fws := fws) (tys := tyTab) (main := fun k (x : Int) => ref01_Of.f k x) ok mix tyOk trivial (fun k x => by kernel_rfl) (fun k => ⟨⟨ref01_Norm.c k, trivial⟩, trivial, trivial⟩) k
end ref01_Of

namespace ref04_power
def fws : Nat → List (FuncId × FW) := fun _ => []
def ptL : List (Pt (TD [(.st (.pair (.st (.pair .bool (.list (.int .u32)))) (.list (.int .u32))))])) := []
def fns : Nat → List (FuncId × FS) := fun k => [(91, ⟨[(.list (.int .u32)), (.int .i64)], [(.list (.int .u32)), (.int .i64)], fun (x : (List Int) × Int) => ref01_Shift.f k x.1 x.2⟩)]
def fgs : Nat → List (FuncId × FG) := fun _ => []
def fs (k : Nat) : FS := ⟨[(.int .i64)], [(.st (.pair (.st (.pair .bool (.list (.int .u32)))) (.list (.int .u32))))], fun (x : Int) => ref04_power.f k x⟩
theorem ok : FnOk Try.prog 55 30 Try.f55.results.toList (Try.f55.body.getD .skip) 1 := ⟨⟨Try.f55, by kernel_rfl, by kernel_rfl, by kernel_rfl, rfl, by kernel_rfl⟩, by kernel_rfl, by decide⟩
theorem c (k : Nat) : Contract Try.prog 55 (fs k) :=
  fn_sound (ps := [(.int .i64)]) (rs := [(.st (.pair (.st (.pair .bool (.list (.int .u32)))) (.list (.int .u32))))]) (pts := ptL) (fns := fns) (fgs := fgs) (fws := fws) (tys := tyTab) (main := fun k (x : Int) => ref04_power.f k x) ok mix tyOk trivial (fun k x => by kernel_rfl) (fun k => ⟨⟨ref01_Shift.c k, trivial⟩, trivial, trivial⟩) k
end ref04_power

namespace ref01_Mul
def s0 : PSig := ⟨0, [(44, (.int .u32), false)], [(0, .val (.list (.int .u32))), (1, .val (.list (.int .u32))), (5, .own 0), (6, .val (.int .i64))]⟩
def s4 : PSig := ⟨0, [(44, (.int .u32), false)], [(0, .val (.list (.int .u32))), (1, .val (.list (.int .u32))), (5, .own 0), (6, .val (.int .i64)), (7, .val (.int .u64)), (8, .val (.int .i64))]⟩
def fws : Nat → List (FuncId × FW) := fun _ => []
def ptL : List (Pt (TD [(.list (.int .u32))])) := [⟨0, s0, fun k (x : (List Int) × (List Int) × (List Int) × Int) => ref01_Mul.p0 k x.1 x.2.1 x.2.2.1 x.2.2.2⟩, ⟨4, s4, fun k (x : (List Int) × (List Int) × (List Int) × Int × Int × Int) => ref01_Mul.p4 k x.1 x.2.1 x.2.2.1 x.2.2.2.1 x.2.2.2.2.1 x.2.2.2.2.2⟩]
def fns : Nat → List (FuncId × FS) := fun k => [(84, ⟨[(.list (.int .u32))], [(.list (.int .u32))], fun (x : (List Int)) => ref01_Norm.f k x⟩)]
def fgs : Nat → List (FuncId × FG) := fun _ => []
def fs (k : Nat) : FS := ⟨[(.list (.int .u32)), (.list (.int .u32))], [(.list (.int .u32))], fun (x : (List Int) × (List Int)) => ref01_Mul.f k x.1 x.2⟩
theorem ok : FnOk Try.prog 51 68 Try.f51.results.toList (Try.f51.body.getD .skip) 2 := ⟨⟨Try.f51, by kernel_rfl, by kernel_rfl, by kernel_rfl, rfl, by kernel_rfl⟩, by kernel_rfl, by decide⟩
theorem c (k : Nat) : Contract Try.prog 51 (fs k) :=
  fn_sound (ps := [(.list (.int .u32)), (.list (.int .u32))]) (rs := [(.list (.int .u32))]) (pts := ptL) (fns := fns) (fgs := fgs) (fws := fws) (tys := tyTab) (main := fun k (x : (List Int) × (List Int)) => ref01_Mul.f k x.1 x.2) ok mix tyOk ⟨⟨rfl, fun _ => rfl, fun k x => by kernel_rfl⟩, ⟨rfl, fun _ => rfl, fun k x => by kernel_rfl⟩, trivial⟩ (fun k x => by kernel_rfl) (fun k => ⟨⟨ref01_Norm.c k, trivial⟩, trivial, trivial⟩) k
end ref01_Mul

namespace ref02_Mul
def fws : Nat → List (FuncId × FW) := fun _ => []
def ptL : List (Pt (TD [(.st (.pair .bool (.list (.int .u32))))])) := []
def fns : Nat → List (FuncId × FS) := fun k => [(51, ⟨[(.list (.int .u32)), (.list (.int .u32))], [(.list (.int .u32))], fun (x : (List Int) × (List Int)) => ref01_Mul.f k x.1 x.2⟩), (87, ⟨[.bool, (.list (.int .u32))], [(.st (.pair .bool (.list (.int .u32))))], fun (x : Bool × (List Int)) => ref02_made.f k x.1 x.2⟩)]
def fgs : Nat → List (FuncId × FG) := fun _ => []
def fs (k : Nat) : FS := ⟨[(.st (.pair .bool (.list (.int .u32)))), (.st (.pair .bool (.list (.int .u32))))], [(.st (.pair .bool (.list (.int .u32))))], fun (x : (Bool × (List Int)) × (Bool × (List Int))) => ref02_Mul.f k x.1 x.2⟩
theorem ok : FnOk Try.prog 49 16 Try.f49.results.toList (Try.f49.body.getD .skip) 2 := ⟨⟨Try.f49, by kernel_rfl, by kernel_rfl, by kernel_rfl, rfl, by kernel_rfl⟩, by kernel_rfl, by decide⟩
theorem c (k : Nat) : Contract Try.prog 49 (fs k) :=
  fn_sound (ps := [(.st (.pair .bool (.list (.int .u32)))), (.st (.pair .bool (.list (.int .u32))))]) (rs := [(.st (.pair .bool (.list (.int .u32))))]) (pts := ptL) (fns := fns) (fgs := fgs) (fws := fws) (tys := tyTab) (main := fun k (x : (Bool × (List Int)) × (Bool × (List Int))) => ref02_Mul.f k x.1 x.2) ok mix tyOk trivial (fun k x => by kernel_rfl) (fun k => ⟨⟨ref01_Mul.c k, ref02_made.c k, trivial⟩, trivial, trivial⟩) k
end ref02_Mul

namespace ref03_Mul
def fws : Nat → List (FuncId × FW) := fun _ => []
def ptL : List (Pt (TD [(.st (.pair (.st (.pair .bool (.list (.int .u32)))) (.list (.int .u32))))])) := []
def fns : Nat → List (FuncId × FS) := fun k => [(45, ⟨[(.st (.pair (.st (.pair .bool (.list (.int .u32)))) (.list (.int .u32))))], [(.st (.pair (.st (.pair .bool (.list (.int .u32)))) (.list (.int .u32))))], fun (x : ((Bool × (List Int)) × (List Int))) => ref03_Norm.f k x⟩), (49, ⟨[(.st (.pair .bool (.list (.int .u32)))), (.st (.pair .bool (.list (.int .u32))))], [(.st (.pair .bool (.list (.int .u32))))], fun (x : (Bool × (List Int)) × (Bool × (List Int))) => ref02_Mul.f k x.1 x.2⟩), (51, ⟨[(.list (.int .u32)), (.list (.int .u32))], [(.list (.int .u32))], fun (x : (List Int) × (List Int)) => ref01_Mul.f k x.1 x.2⟩)]
def fgs : Nat → List (FuncId × FG) := fun _ => []
def fs (k : Nat) : FS := ⟨[(.st (.pair (.st (.pair .bool (.list (.int .u32)))) (.list (.int .u32)))), (.st (.pair (.st (.pair .bool (.list (.int .u32)))) (.list (.int .u32))))], [(.st (.pair (.st (.pair .bool (.list (.int .u32)))) (.list (.int .u32))))], fun (x : ((Bool × (List Int)) × (List Int)) × ((Bool × (List Int)) × (List Int))) => ref03_Mul.f k x.1 x.2⟩
theorem ok : FnOk Try.prog 53 21 Try.f53.results.toList (Try.f53.body.getD .skip) 2 := ⟨⟨Try.f53, by kernel_rfl, by kernel_rfl, by kernel_rfl, rfl, by kernel_rfl⟩, by kernel_rfl, by decide⟩
theorem c (k : Nat) : Contract Try.prog 53 (fs k) :=
  fn_sound (ps := [(.st (.pair (.st (.pair .bool (.list (.int .u32)))) (.list (.int .u32)))), (.st (.pair (.st (.pair .bool (.list (.int .u32)))) (.list (.int .u32))))]) (rs := [(.st (.pair (.st (.pair .bool (.list (.int .u32)))) (.list (.int .u32))))]) (pts := ptL) (fns := fns) (fgs := fgs) (fws := fws) (tys := tyTab) (main := fun k (x : ((Bool × (List Int)) × (List Int)) × ((Bool × (List Int)) × (List Int))) => ref03_Mul.f k x.1 x.2) ok mix tyOk trivial (fun k x => by kernel_rfl) (fun k => ⟨⟨ref03_Norm.c k, ref02_Mul.c k, ref01_Mul.c k, trivial⟩, trivial, trivial⟩) k
end ref03_Mul

namespace ref04_Amount
def fws : Nat → List (FuncId × FW) := fun _ => []
def ptL : List (Pt (TD [(.st (.pair (.st (.pair .bool (.list (.int .u32)))) (.list (.int .u32))))])) := []
def fns : Nat → List (FuncId × FS) := fun k => [(52, ⟨[(.int .u64)], [(.int .u64), (.int .i64)], fun (x : Int) => ref04_parts.f k x⟩), (54, ⟨[(.int .u64)], [(.list (.int .u32))], fun (x : Int) => ref01_Of.f k x⟩), (55, ⟨[(.int .i64)], [(.st (.pair (.st (.pair .bool (.list (.int .u32)))) (.list (.int .u32))))], fun (x : Int) => ref04_power.f k x⟩), (53, ⟨[(.st (.pair (.st (.pair .bool (.list (.int .u32)))) (.list (.int .u32)))), (.st (.pair (.st (.pair .bool (.list (.int .u32)))) (.list (.int .u32))))], [(.st (.pair (.st (.pair .bool (.list (.int .u32)))) (.list (.int .u32))))], fun (x : ((Bool × (List Int)) × (List Int)) × ((Bool × (List Int)) × (List Int))) => ref03_Mul.f k x.1 x.2⟩)]
def fgs : Nat → List (FuncId × FG) := fun _ => []
def fs (k : Nat) : FS := ⟨[(.int .u64)], [(.st (.pair (.st (.pair .bool (.list (.int .u32)))) (.list (.int .u32))))], fun (x : Int) => ref04_Amount.f k x⟩
theorem ok : FnOk Try.prog 21 18 Try.f21.results.toList (Try.f21.body.getD .skip) 1 := ⟨⟨Try.f21, by kernel_rfl, by kernel_rfl, by kernel_rfl, rfl, by kernel_rfl⟩, by kernel_rfl, by decide⟩
theorem c (k : Nat) : Contract Try.prog 21 (fs k) :=
  fn_sound (ps := [(.int .u64)]) (rs := [(.st (.pair (.st (.pair .bool (.list (.int .u32)))) (.list (.int .u32))))]) (pts := ptL) (fns := fns) (fgs := fgs) (fws := fws) (tys := tyTab) (main := fun k (x : Int) => ref04_Amount.f k x) ok mix tyOk trivial (fun k x => by kernel_rfl) (fun k => ⟨⟨ref04_parts.c k, ref01_Of.c k, ref04_power.c k, ref03_Mul.c k, trivial⟩, trivial, trivial⟩) k
end ref04_Amount

namespace ref04_Number
def fws : Nat → List (FuncId × FW) := fun _ => []
def ptL : List (Pt (TD [(.st (.pair (.st (.pair .bool (.list (.int .u32)))) (.list (.int .u32))))])) := []
def fns : Nat → List (FuncId × FS) := fun k => [(21, ⟨[(.int .u64)], [(.st (.pair (.st (.pair .bool (.list (.int .u32)))) (.list (.int .u32))))], fun (x : Int) => ref04_Amount.f k x⟩), (25, ⟨[(.st (.pair (.st (.pair .bool (.list (.int .u32)))) (.list (.int .u32))))], [(.st (.pair (.st (.pair .bool (.list (.int .u32)))) (.list (.int .u32))))], fun (x : ((Bool × (List Int)) × (List Int))) => ref03_Neg.f k x⟩)]
def fgs : Nat → List (FuncId × FG) := fun _ => []
def fs (k : Nat) : FS := ⟨[(.int .u64)], [(.st (.pair (.st (.pair .bool (.list (.int .u32)))) (.list (.int .u32))))], fun (x : Int) => ref04_Number.f k x⟩
theorem ok : FnOk Try.prog 47 12 Try.f47.results.toList (Try.f47.body.getD .skip) 1 := ⟨⟨Try.f47, by kernel_rfl, by kernel_rfl, by kernel_rfl, rfl, by kernel_rfl⟩, by kernel_rfl, by decide⟩
theorem c (k : Nat) : Contract Try.prog 47 (fs k) :=
  fn_sound (ps := [(.int .u64)]) (rs := [(.st (.pair (.st (.pair .bool (.list (.int .u32)))) (.list (.int .u32))))]) (pts := ptL) (fns := fns) (fgs := fgs) (fws := fws) (tys := tyTab) (main := fun k (x : Int) => ref04_Number.f k x) ok mix tyOk trivial (fun k x => by kernel_rfl) (fun k => ⟨⟨ref04_Amount.c k, ref03_Neg.c k, trivial⟩, trivial, trivial⟩) k
end ref04_Number

namespace law04_number
def fws : Nat → List (FuncId × FW) := fun _ => []
def ptL : List (Pt (TD [(.st (.pair (.st (.pair .bool (.list (.int .u32)))) (.list (.int .u32))))])) := []
def fns : Nat → List (FuncId × FS) := fun k => [(15, ⟨[.flt], [(.int .u64)], fun (x : Nat) => math_Float64bits.f k x⟩), (47, ⟨[(.int .u64)], [(.st (.pair (.st (.pair .bool (.list (.int .u32)))) (.list (.int .u32))))], fun (x : Int) => ref04_Number.f k x⟩)]
def fgs : Nat → List (FuncId × FG) := fun _ => []
def fs (k : Nat) : FS := ⟨[.flt], [(.st (.pair (.st (.pair .bool (.list (.int .u32)))) (.list (.int .u32))))], fun (x : Nat) => law04_number.f k x⟩
theorem ok : FnOk Try.prog 18 6 Try.f18.results.toList (Try.f18.body.getD .skip) 1 := ⟨⟨Try.f18, by kernel_rfl, by kernel_rfl, by kernel_rfl, rfl, by kernel_rfl⟩, by kernel_rfl, by decide⟩
theorem c (k : Nat) : Contract Try.prog 18 (fs k) :=
  fn_sound (ps := [.flt]) (rs := [(.st (.pair (.st (.pair .bool (.list (.int .u32)))) (.list (.int .u32))))]) (pts := ptL) (fns := fns) (fgs := fgs) (fws := fws) (tys := tyTab) (main := fun k (x : Nat) => law04_number.f k x) ok mix tyOk trivial (fun k x => by kernel_rfl) (fun k => ⟨⟨math_Float64bits.c k, ref04_Number.c k, trivial⟩, trivial, trivial⟩) k
end law04_number

namespace ref03_positive
def fws : Nat → List (FuncId × FW) := fun _ => []
def ptL : List (Pt (TD [(.st (.pair .bool (.list (.int .u32))))])) := []
def fns : Nat → List (FuncId × FS) := fun _ => []
def fgs : Nat → List (FuncId × FG) := fun _ => []
def fs (k : Nat) : FS := ⟨[(.list (.int .u32))], [(.st (.pair .bool (.list (.int .u32))))], fun (x : (List Int)) => ref03_positive.f k x⟩
theorem ok : FnOk Try.prog 50 5 Try.f50.results.toList (Try.f50.body.getD .skip) 1 := ⟨⟨Try.f50, by kernel_rfl, by kernel_rfl, by kernel_rfl, rfl, by kernel_rfl⟩, by kernel_rfl, by decide⟩
theorem c (k : Nat) : Contract Try.prog 50 (fs k) :=
  fn_sound (ps := [(.list (.int .u32))]) (rs := [(.st (.pair .bool (.list (.int .u32))))]) (pts := ptL) (fns := fns) (fgs := fgs) (fws := fws) (tys := tyTab) (main := fun k (x : (List Int)) => ref03_positive.f k x) ok mix tyOk trivial (fun k x => by kernel_rfl) (fun _ => ⟨trivial, trivial, trivial⟩) k
end ref03_positive

namespace ref01_Add
def s9 : PSig := ⟨0, [], [(0, .val (.list (.int .u32))), (1, .val (.list (.int .u32))), (5, .val (.int .i64))]⟩
def s0 : PSig := ⟨0, [(44, (.int .u32), false)], [(0, .val (.list (.int .u32))), (1, .val (.list (.int .u32))), (5, .val (.int .i64)), (6, .own 0), (7, .val (.int .u64)), (8, .val (.int .i64))]⟩
def fws : Nat → List (FuncId × FW) := fun _ => []
def ptL : List (Pt (TD [(.list (.int .u32))])) := [⟨9, s9, fun k (x : (List Int) × (List Int) × Int) => ref01_Add.p9 k x.1 x.2.1 x.2.2⟩, ⟨0, s0, fun k (x : (List Int) × (List Int) × (List Int) × Int × Int × Int) => ref01_Add.p0 k x.1 x.2.1 x.2.2.1 x.2.2.2.1 x.2.2.2.2.1 x.2.2.2.2.2⟩]
def fns : Nat → List (FuncId × FS) := fun k => [(114, ⟨[(.list (.int .u32)), (.int .i64)], [(.int .u64)], fun (x : (List Int) × Int) => ref01_at.f k x.1 x.2⟩), (84, ⟨[(.list (.int .u32))], [(.list (.int .u32))], fun (x : (List Int)) => ref01_Norm.f k x⟩)]
def fgs : Nat → List (FuncId × FG) := fun _ => []
def fs (k : Nat) : FS := ⟨[(.list (.int .u32)), (.list (.int .u32))], [(.list (.int .u32))], fun (x : (List Int) × (List Int)) => ref01_Add.f k x.1 x.2⟩
theorem ok : FnOk Try.prog 88 44 Try.f88.results.toList (Try.f88.body.getD .skip) 2 := ⟨⟨Try.f88, by kernel_rfl, by kernel_rfl, by kernel_rfl, rfl, by kernel_rfl⟩, by kernel_rfl, by decide⟩
theorem c (k : Nat) : Contract Try.prog 88 (fs k) :=
  fn_sound (ps := [(.list (.int .u32)), (.list (.int .u32))]) (rs := [(.list (.int .u32))]) (pts := ptL) (fns := fns) (fgs := fgs) (fws := fws) (tys := tyTab) (main := fun k (x : (List Int) × (List Int)) => ref01_Add.f k x.1 x.2) ok mix tyOk ⟨⟨rfl, fun _ => rfl, fun k x => by kernel_rfl⟩, ⟨rfl, fun _ => rfl, fun k x => by kernel_rfl⟩, trivial⟩ (fun k x => by kernel_rfl) (fun k => ⟨⟨ref01_at.c k, ref01_Norm.c k, trivial⟩, trivial, trivial⟩) k
end ref01_Add

namespace ref02_Add
def fws : Nat → List (FuncId × FW) := fun _ => []
def ptL : List (Pt (TD [(.st (.pair .bool (.list (.int .u32))))])) := []
def fns : Nat → List (FuncId × FS) := fun k => [(88, ⟨[(.list (.int .u32)), (.list (.int .u32))], [(.list (.int .u32))], fun (x : (List Int) × (List Int)) => ref01_Add.f k x.1 x.2⟩), (87, ⟨[.bool, (.list (.int .u32))], [(.st (.pair .bool (.list (.int .u32))))], fun (x : Bool × (List Int)) => ref02_made.f k x.1 x.2⟩), (89, ⟨[(.list (.int .u32)), (.list (.int .u32))], [(.int .i64)], fun (x : (List Int) × (List Int)) => ref01_Cmp.f k x.1 x.2⟩), (90, ⟨[(.list (.int .u32)), (.list (.int .u32))], [(.list (.int .u32)), (.int .i64)], fun (x : (List Int) × (List Int)) => ref01_Sub.f k x.1 x.2⟩)]
def fgs : Nat → List (FuncId × FG) := fun _ => []
def fs (k : Nat) : FS := ⟨[(.st (.pair .bool (.list (.int .u32)))), (.st (.pair .bool (.list (.int .u32))))], [(.st (.pair .bool (.list (.int .u32))))], fun (x : (Bool × (List Int)) × (Bool × (List Int))) => ref02_Add.f k x.1 x.2⟩
theorem ok : FnOk Try.prog 48 52 Try.f48.results.toList (Try.f48.body.getD .skip) 2 := ⟨⟨Try.f48, by kernel_rfl, by kernel_rfl, by kernel_rfl, rfl, by kernel_rfl⟩, by kernel_rfl, by decide⟩
theorem c (k : Nat) : Contract Try.prog 48 (fs k) :=
  fn_sound (ps := [(.st (.pair .bool (.list (.int .u32)))), (.st (.pair .bool (.list (.int .u32))))]) (rs := [(.st (.pair .bool (.list (.int .u32))))]) (pts := ptL) (fns := fns) (fgs := fgs) (fws := fws) (tys := tyTab) (main := fun k (x : (Bool × (List Int)) × (Bool × (List Int))) => ref02_Add.f k x.1 x.2) ok mix tyOk trivial (fun k x => by kernel_rfl) (fun k => ⟨⟨ref01_Add.c k, ref02_made.c k, ref01_Cmp.c k, ref01_Sub.c k, trivial⟩, trivial, trivial⟩) k
end ref02_Add

namespace ref03_Add
def fws : Nat → List (FuncId × FW) := fun _ => []
def ptL : List (Pt (TD [(.st (.pair (.st (.pair .bool (.list (.int .u32)))) (.list (.int .u32))))])) := []
def fns : Nat → List (FuncId × FS) := fun k => [(45, ⟨[(.st (.pair (.st (.pair .bool (.list (.int .u32)))) (.list (.int .u32))))], [(.st (.pair (.st (.pair .bool (.list (.int .u32)))) (.list (.int .u32))))], fun (x : ((Bool × (List Int)) × (List Int))) => ref03_Norm.f k x⟩), (50, ⟨[(.list (.int .u32))], [(.st (.pair .bool (.list (.int .u32))))], fun (x : (List Int)) => ref03_positive.f k x⟩), (49, ⟨[(.st (.pair .bool (.list (.int .u32)))), (.st (.pair .bool (.list (.int .u32))))], [(.st (.pair .bool (.list (.int .u32))))], fun (x : (Bool × (List Int)) × (Bool × (List Int))) => ref02_Mul.f k x.1 x.2⟩), (48, ⟨[(.st (.pair .bool (.list (.int .u32)))), (.st (.pair .bool (.list (.int .u32))))], [(.st (.pair .bool (.list (.int .u32))))], fun (x : (Bool × (List Int)) × (Bool × (List Int))) => ref02_Add.f k x.1 x.2⟩), (51, ⟨[(.list (.int .u32)), (.list (.int .u32))], [(.list (.int .u32))], fun (x : (List Int) × (List Int)) => ref01_Mul.f k x.1 x.2⟩)]
def fgs : Nat → List (FuncId × FG) := fun _ => []
def fs (k : Nat) : FS := ⟨[(.st (.pair (.st (.pair .bool (.list (.int .u32)))) (.list (.int .u32)))), (.st (.pair (.st (.pair .bool (.list (.int .u32)))) (.list (.int .u32))))], [(.st (.pair (.st (.pair .bool (.list (.int .u32)))) (.list (.int .u32))))], fun (x : ((Bool × (List Int)) × (List Int)) × ((Bool × (List Int)) × (List Int))) => ref03_Add.f k x.1 x.2⟩
theorem ok : FnOk Try.prog 20 31 Try.f20.results.toList (Try.f20.body.getD .skip) 2 := ⟨⟨Try.f20, by kernel_rfl, by kernel_rfl, by kernel_rfl, rfl, by kernel_rfl⟩, by kernel_rfl, by decide⟩
theorem c (k : Nat) : Contract Try.prog 20 (fs k) :=
  fn_sound (ps := [(.st (.pair (.st (.pair .bool (.list (.int .u32)))) (.list (.int .u32)))), (.st (.pair (.st (.pair .bool (.list (.int .u32)))) (.list (.int .u32))))]) (rs := [(.st (.pair (.st (.pair .bool (.list (.int .u32)))) (.list (.int .u32))))]) (pts := ptL) (fns := fns) (fgs := fgs) (fws := fws) (tys := tyTab) (main := fun k (x : ((Bool × (List Int)) × (List Int)) × ((Bool × (List Int)) × (List Int))) => ref03_Add.f k x.1 x.2) ok mix tyOk trivial (fun k x => by kernel_rfl) (fun k => ⟨⟨ref03_Norm.c k, ref03_positive.c k, ref02_Mul.c k, ref02_Add.c k, ref01_Mul.c k, trivial⟩, trivial, trivial⟩) k
end ref03_Add

namespace ref03_Sub
def fws : Nat → List (FuncId × FW) := fun _ => []
def ptL : List (Pt (TD [(.st (.pair (.st (.pair .bool (.list (.int .u32)))) (.list (.int .u32))))])) := []
def fns : Nat → List (FuncId × FS) := fun k => [(25, ⟨[(.st (.pair (.st (.pair .bool (.list (.int .u32)))) (.list (.int .u32))))], [(.st (.pair (.st (.pair .bool (.list (.int .u32)))) (.list (.int .u32))))], fun (x : ((Bool × (List Int)) × (List Int))) => ref03_Neg.f k x⟩), (20, ⟨[(.st (.pair (.st (.pair .bool (.list (.int .u32)))) (.list (.int .u32)))), (.st (.pair (.st (.pair .bool (.list (.int .u32)))) (.list (.int .u32))))], [(.st (.pair (.st (.pair .bool (.list (.int .u32)))) (.list (.int .u32))))], fun (x : ((Bool × (List Int)) × (List Int)) × ((Bool × (List Int)) × (List Int))) => ref03_Add.f k x.1 x.2⟩)]
def fgs : Nat → List (FuncId × FG) := fun _ => []
def fs (k : Nat) : FS := ⟨[(.st (.pair (.st (.pair .bool (.list (.int .u32)))) (.list (.int .u32)))), (.st (.pair (.st (.pair .bool (.list (.int .u32)))) (.list (.int .u32))))], [(.st (.pair (.st (.pair .bool (.list (.int .u32)))) (.list (.int .u32))))], fun (x : ((Bool × (List Int)) × (List Int)) × ((Bool × (List Int)) × (List Int))) => ref03_Sub.f k x.1 x.2⟩
theorem ok : FnOk Try.prog 17 9 Try.f17.results.toList (Try.f17.body.getD .skip) 2 := ⟨⟨Try.f17, by kernel_rfl, by kernel_rfl, by kernel_rfl, rfl, by kernel_rfl⟩, by kernel_rfl, by decide⟩
theorem c (k : Nat) : Contract Try.prog 17 (fs k) :=
  fn_sound (ps := [(.st (.pair (.st (.pair .bool (.list (.int .u32)))) (.list (.int .u32)))), (.st (.pair (.st (.pair .bool (.list (.int .u32)))) (.list (.int .u32))))]) (rs := [(.st (.pair (.st (.pair .bool (.list (.int .u32)))) (.list (.int .u32))))]) (pts := ptL) (fns := fns) (fgs := fgs) (fws := fws) (tys := tyTab) (main := fun k (x : ((Bool × (List Int)) × (List Int)) × ((Bool × (List Int)) × (List Int))) => ref03_Sub.f k x.1 x.2) ok mix tyOk trivial (fun k x => by kernel_rfl) (fun k => ⟨⟨ref03_Neg.c k, ref03_Add.c k, trivial⟩, trivial, trivial⟩) k
end ref03_Sub

namespace ref03_Cmp
def fws : Nat → List (FuncId × FW) := fun _ => []
def ptL : List (Pt (TD [(.int .i64)])) := []
def fns : Nat → List (FuncId × FS) := fun k => [(17, ⟨[(.st (.pair (.st (.pair .bool (.list (.int .u32)))) (.list (.int .u32)))), (.st (.pair (.st (.pair .bool (.list (.int .u32)))) (.list (.int .u32))))], [(.st (.pair (.st (.pair .bool (.list (.int .u32)))) (.list (.int .u32))))], fun (x : ((Bool × (List Int)) × (List Int)) × ((Bool × (List Int)) × (List Int))) => ref03_Sub.f k x.1 x.2⟩), (16, ⟨[(.st (.pair (.st (.pair .bool (.list (.int .u32)))) (.list (.int .u32))))], [(.int .i64)], fun (x : ((Bool × (List Int)) × (List Int))) => ref03_Sign.f k x⟩)]
def fgs : Nat → List (FuncId × FG) := fun _ => []
def fs (k : Nat) : FS := ⟨[(.st (.pair (.st (.pair .bool (.list (.int .u32)))) (.list (.int .u32)))), (.st (.pair (.st (.pair .bool (.list (.int .u32)))) (.list (.int .u32))))], [(.int .i64)], fun (x : ((Bool × (List Int)) × (List Int)) × ((Bool × (List Int)) × (List Int))) => ref03_Cmp.f k x.1 x.2⟩
theorem ok : FnOk Try.prog 19 9 Try.f19.results.toList (Try.f19.body.getD .skip) 2 := ⟨⟨Try.f19, by kernel_rfl, by kernel_rfl, by kernel_rfl, rfl, by kernel_rfl⟩, by kernel_rfl, by decide⟩
theorem c (k : Nat) : Contract Try.prog 19 (fs k) :=
  fn_sound (ps := [(.st (.pair (.st (.pair .bool (.list (.int .u32)))) (.list (.int .u32)))), (.st (.pair (.st (.pair .bool (.list (.int .u32)))) (.list (.int .u32))))]) (rs := [(.int .i64)]) (pts := ptL) (fns := fns) (fgs := fgs) (fws := fws) (tys := tyTab) (main := fun k (x : ((Bool × (List Int)) × (List Int)) × ((Bool × (List Int)) × (List Int))) => ref03_Cmp.f k x.1 x.2) ok mix tyOk trivial (fun k x => by kernel_rfl) (fun k => ⟨⟨ref03_Sub.c k, ref03_Sign.c k, trivial⟩, trivial, trivial⟩) k
end ref03_Cmp

namespace law04_ApproxNear
def s7 : PSig := ⟨0, [(27, (.st (.pair (.st (.pair .bool (.list (.int .u32)))) (.list (.int .u32)))), true)], [(1, .val .flt), (2, .ptr 0 [])]⟩
def fws : Nat → List (FuncId × FW) := fun _ => []
def ptL : List (Pt (TD [.bool])) := [⟨7, s7, fun k (x : ((Bool × (List Int)) × (List Int)) × Nat) => law04_ApproxNear.p7 k x.1 x.2⟩]
def fns : Nat → List (FuncId × FS) := fun k => [(10, ⟨[.flt], [.bool], fun (x : Nat) => law04_finite.f k x⟩), (11, ⟨[(.st (.pair (.st (.pair .bool (.list (.int .u32)))) (.list (.int .u32))))], [.flt], fun (x : ((Bool × (List Int)) × (List Int))) => approx_Nearest.f k x⟩), (13, ⟨[(.st (.pair (.st (.pair .bool (.list (.int .u32)))) (.list (.int .u32))))], [(.st (.pair (.st (.pair .bool (.list (.int .u32)))) (.list (.int .u32))))], fun (x : ((Bool × (List Int)) × (List Int))) => ref03_Abs.f k x⟩), (12, ⟨[(.st (.pair (.st (.pair .bool (.list (.int .u32)))) (.list (.int .u32))))], [.flt], fun (x : ((Bool × (List Int)) × (List Int))) => ref04_Up.f k x⟩), (15, ⟨[.flt], [(.int .u64)], fun (x : Nat) => math_Float64bits.f k x⟩), (14, ⟨[(.int .u64)], [.bool], fun (x : Int) => ref04_IsNaN.f k x⟩), (16, ⟨[(.st (.pair (.st (.pair .bool (.list (.int .u32)))) (.list (.int .u32))))], [(.int .i64)], fun (x : ((Bool × (List Int)) × (List Int))) => ref03_Sign.f k x⟩), (18, ⟨[.flt], [(.st (.pair (.st (.pair .bool (.list (.int .u32)))) (.list (.int .u32))))], fun (x : Nat) => law04_number.f k x⟩), (17, ⟨[(.st (.pair (.st (.pair .bool (.list (.int .u32)))) (.list (.int .u32)))), (.st (.pair (.st (.pair .bool (.list (.int .u32)))) (.list (.int .u32))))], [(.st (.pair (.st (.pair .bool (.list (.int .u32)))) (.list (.int .u32))))], fun (x : ((Bool × (List Int)) × (List Int)) × ((Bool × (List Int)) × (List Int))) => ref03_Sub.f k x.1 x.2⟩), (19, ⟨[(.st (.pair (.st (.pair .bool (.list (.int .u32)))) (.list (.int .u32)))), (.st (.pair (.st (.pair .bool (.list (.int .u32)))) (.list (.int .u32))))], [(.int .i64)], fun (x : ((Bool × (List Int)) × (List Int)) × ((Bool × (List Int)) × (List Int))) => ref03_Cmp.f k x.1 x.2⟩)]
def fgs : Nat → List (FuncId × FG) := fun _ => []
def fs (k : Nat) : FS := ⟨[(.st (.pair (.st (.pair .bool (.list (.int .u32)))) (.list (.int .u32)))), .flt], [.bool], fun (x : ((Bool × (List Int)) × (List Int)) × Nat) => law04_ApproxNear.f k x.1 x.2⟩
theorem ok : FnOk Try.prog 3 68 Try.f3.results.toList (Try.f3.body.getD .skip) 2 := ⟨⟨Try.f3, by kernel_rfl, by kernel_rfl, by kernel_rfl, rfl, by kernel_rfl⟩, by kernel_rfl, by decide⟩
theorem c (k : Nat) : Contract Try.prog 3 (fs k) :=
  fn_sound (ps := [(.st (.pair (.st (.pair .bool (.list (.int .u32)))) (.list (.int .u32)))), .flt]) (rs := [.bool]) (pts := ptL) (fns := fns) (fgs := fgs) (fws := fws) (tys := tyTab) (main := fun k (x : ((Bool × (List Int)) × (List Int)) × Nat) => law04_ApproxNear.f k x.1 x.2) ok mix tyOk ⟨⟨rfl, fun _ => rfl, fun k x => by kernel_rfl⟩, trivial⟩ (fun k x => by kernel_rfl) (fun k => ⟨⟨law04_finite.c k, approx_Nearest.c k, ref03_Abs.c k, ref04_Up.c k, math_Float64bits.c k, ref04_IsNaN.c k, ref03_Sign.c k, law04_number.c k, ref03_Sub.c k, ref03_Cmp.c k, trivial⟩, trivial, trivial⟩) k
end law04_ApproxNear

namespace ref03_Of
def fws : Nat → List (FuncId × FW) := fun _ => []
def ptL : List (Pt (TD [(.st (.pair (.st (.pair .bool (.list (.int .u32)))) (.list (.int .u32)))), (.int .i64)])) := []
def fns : Nat → List (FuncId × FS) := fun k => [(83, ⟨[(.st (.pair .bool (.list (.int .u32))))], [(.st (.pair .bool (.list (.int .u32))))], fun (x : (Bool × (List Int))) => ref02_Norm.f k x⟩), (45, ⟨[(.st (.pair (.st (.pair .bool (.list (.int .u32)))) (.list (.int .u32))))], [(.st (.pair (.st (.pair .bool (.list (.int .u32)))) (.list (.int .u32))))], fun (x : ((Bool × (List Int)) × (List Int))) => ref03_Norm.f k x⟩)]
def fgs : Nat → List (FuncId × FG) := fun _ => []
def fs (k : Nat) : FS := ⟨[(.st (.pair .bool (.list (.int .u32)))), (.st (.pair .bool (.list (.int .u32))))], [(.st (.pair (.st (.pair .bool (.list (.int .u32)))) (.list (.int .u32)))), (.int .i64)], fun (x : (Bool × (List Int)) × (Bool × (List Int))) => ref03_Of.f k x.1 x.2⟩
theorem ok : FnOk Try.prog 92 29 Try.f92.results.toList (Try.f92.body.getD .skip) 2 := ⟨⟨Try.f92, by kernel_rfl, by kernel_rfl, by kernel_rfl, rfl, by kernel_rfl⟩, by kernel_rfl, by decide⟩
theorem c (k : Nat) : Contract Try.prog 92 (fs k) :=
  fn_sound (ps := [(.st (.pair .bool (.list (.int .u32)))), (.st (.pair .bool (.list (.int .u32))))]) (rs := [(.st (.pair (.st (.pair .bool (.list (.int .u32)))) (.list (.int .u32)))), (.int .i64)]) (pts := ptL) (fns := fns) (fgs := fgs) (fws := fws) (tys := tyTab) (main := fun k (x : (Bool × (List Int)) × (Bool × (List Int))) => ref03_Of.f k x.1 x.2) ok mix tyOk trivial (fun k x => by kernel_rfl) (fun k => ⟨⟨ref02_Norm.c k, ref03_Norm.c k, trivial⟩, trivial, trivial⟩) k
end ref03_Of

namespace ref03_Inv
def fws : Nat → List (FuncId × FW) := fun _ => []
def ptL : List (Pt (TD [(.st (.pair (.st (.pair .bool (.list (.int .u32)))) (.list (.int .u32)))), (.int .i64)])) := []
def fns : Nat → List (FuncId × FS) := fun k => [(45, ⟨[(.st (.pair (.st (.pair .bool (.list (.int .u32)))) (.list (.int .u32))))], [(.st (.pair (.st (.pair .bool (.list (.int .u32)))) (.list (.int .u32))))], fun (x : ((Bool × (List Int)) × (List Int))) => ref03_Norm.f k x⟩), (50, ⟨[(.list (.int .u32))], [(.st (.pair .bool (.list (.int .u32))))], fun (x : (List Int)) => ref03_positive.f k x⟩), (92, ⟨[(.st (.pair .bool (.list (.int .u32)))), (.st (.pair .bool (.list (.int .u32))))], [(.st (.pair (.st (.pair .bool (.list (.int .u32)))) (.list (.int .u32)))), (.int .i64)], fun (x : (Bool × (List Int)) × (Bool × (List Int))) => ref03_Of.f k x.1 x.2⟩)]
def fgs : Nat → List (FuncId × FG) := fun _ => []
def fs (k : Nat) : FS := ⟨[(.st (.pair (.st (.pair .bool (.list (.int .u32)))) (.list (.int .u32))))], [(.st (.pair (.st (.pair .bool (.list (.int .u32)))) (.list (.int .u32)))), (.int .i64)], fun (x : ((Bool × (List Int)) × (List Int))) => ref03_Inv.f k x⟩
theorem ok : FnOk Try.prog 56 14 Try.f56.results.toList (Try.f56.body.getD .skip) 1 := ⟨⟨Try.f56, by kernel_rfl, by kernel_rfl, by kernel_rfl, rfl, by kernel_rfl⟩, by kernel_rfl, by decide⟩
theorem c (k : Nat) : Contract Try.prog 56 (fs k) :=
  fn_sound (ps := [(.st (.pair (.st (.pair .bool (.list (.int .u32)))) (.list (.int .u32))))]) (rs := [(.st (.pair (.st (.pair .bool (.list (.int .u32)))) (.list (.int .u32)))), (.int .i64)]) (pts := ptL) (fns := fns) (fgs := fgs) (fws := fws) (tys := tyTab) (main := fun k (x : ((Bool × (List Int)) × (List Int))) => ref03_Inv.f k x) ok mix tyOk trivial (fun k x => by kernel_rfl) (fun k => ⟨⟨ref03_Norm.c k, ref03_positive.c k, ref03_Of.c k, trivial⟩, trivial, trivial⟩) k
end ref03_Inv

namespace ref03_Div
def fws : Nat → List (FuncId × FW) := fun _ => []
def ptL : List (Pt (TD [(.st (.pair (.st (.pair .bool (.list (.int .u32)))) (.list (.int .u32)))), (.int .i64)])) := []
def fns : Nat → List (FuncId × FS) := fun k => [(56, ⟨[(.st (.pair (.st (.pair .bool (.list (.int .u32)))) (.list (.int .u32))))], [(.st (.pair (.st (.pair .bool (.list (.int .u32)))) (.list (.int .u32)))), (.int .i64)], fun (x : ((Bool × (List Int)) × (List Int))) => ref03_Inv.f k x⟩), (53, ⟨[(.st (.pair (.st (.pair .bool (.list (.int .u32)))) (.list (.int .u32)))), (.st (.pair (.st (.pair .bool (.list (.int .u32)))) (.list (.int .u32))))], [(.st (.pair (.st (.pair .bool (.list (.int .u32)))) (.list (.int .u32))))], fun (x : ((Bool × (List Int)) × (List Int)) × ((Bool × (List Int)) × (List Int))) => ref03_Mul.f k x.1 x.2⟩)]
def fgs : Nat → List (FuncId × FG) := fun _ => []
def fs (k : Nat) : FS := ⟨[(.st (.pair (.st (.pair .bool (.list (.int .u32)))) (.list (.int .u32)))), (.st (.pair (.st (.pair .bool (.list (.int .u32)))) (.list (.int .u32))))], [(.st (.pair (.st (.pair .bool (.list (.int .u32)))) (.list (.int .u32)))), (.int .i64)], fun (x : ((Bool × (List Int)) × (List Int)) × ((Bool × (List Int)) × (List Int))) => ref03_Div.f k x.1 x.2⟩
theorem ok : FnOk Try.prog 22 20 Try.f22.results.toList (Try.f22.body.getD .skip) 2 := ⟨⟨Try.f22, by kernel_rfl, by kernel_rfl, by kernel_rfl, rfl, by kernel_rfl⟩, by kernel_rfl, by decide⟩
theorem c (k : Nat) : Contract Try.prog 22 (fs k) :=
  fn_sound (ps := [(.st (.pair (.st (.pair .bool (.list (.int .u32)))) (.list (.int .u32)))), (.st (.pair (.st (.pair .bool (.list (.int .u32)))) (.list (.int .u32))))]) (rs := [(.st (.pair (.st (.pair .bool (.list (.int .u32)))) (.list (.int .u32)))), (.int .i64)]) (pts := ptL) (fns := fns) (fgs := fgs) (fws := fws) (tys := tyTab) (main := fun k (x : ((Bool × (List Int)) × (List Int)) × ((Bool × (List Int)) × (List Int))) => ref03_Div.f k x.1 x.2) ok mix tyOk trivial (fun k x => by kernel_rfl) (fun k => ⟨⟨ref03_Inv.c k, ref03_Mul.c k, trivial⟩, trivial, trivial⟩) k
end ref03_Div

namespace law04_same
def fws : Nat → List (FuncId × FW) := fun _ => []
def ptL : List (Pt (TD [.bool])) := []
def fns : Nat → List (FuncId × FS) := fun k => [(15, ⟨[.flt], [(.int .u64)], fun (x : Nat) => math_Float64bits.f k x⟩)]
def fgs : Nat → List (FuncId × FG) := fun _ => []
def fs (k : Nat) : FS := ⟨[.flt, .flt], [.bool], fun (x : Nat × Nat) => law04_same.f k x.1 x.2⟩
theorem ok : FnOk Try.prog 24 10 Try.f24.results.toList (Try.f24.body.getD .skip) 2 := ⟨⟨Try.f24, by kernel_rfl, by kernel_rfl, by kernel_rfl, rfl, by kernel_rfl⟩, by kernel_rfl, by decide⟩
theorem c (k : Nat) : Contract Try.prog 24 (fs k) :=
  fn_sound (ps := [.flt, .flt]) (rs := [.bool]) (pts := ptL) (fns := fns) (fgs := fgs) (fws := fws) (tys := tyTab) (main := fun k (x : Nat × Nat) => law04_same.f k x.1 x.2) ok mix tyOk trivial (fun k x => by kernel_rfl) (fun k => ⟨⟨math_Float64bits.c k, trivial⟩, trivial, trivial⟩) k
end law04_same

namespace law04_ApproxTies
def fws : Nat → List (FuncId × FW) := fun _ => []
def ptL : List (Pt (TD [.bool])) := []
def fns : Nat → List (FuncId × FS) := fun k => [(21, ⟨[(.int .u64)], [(.st (.pair (.st (.pair .bool (.list (.int .u32)))) (.list (.int .u32))))], fun (x : Int) => ref04_Amount.f k x⟩), (20, ⟨[(.st (.pair (.st (.pair .bool (.list (.int .u32)))) (.list (.int .u32)))), (.st (.pair (.st (.pair .bool (.list (.int .u32)))) (.list (.int .u32))))], [(.st (.pair (.st (.pair .bool (.list (.int .u32)))) (.list (.int .u32))))], fun (x : ((Bool × (List Int)) × (List Int)) × ((Bool × (List Int)) × (List Int))) => ref03_Add.f k x.1 x.2⟩), (22, ⟨[(.st (.pair (.st (.pair .bool (.list (.int .u32)))) (.list (.int .u32)))), (.st (.pair (.st (.pair .bool (.list (.int .u32)))) (.list (.int .u32))))], [(.st (.pair (.st (.pair .bool (.list (.int .u32)))) (.list (.int .u32)))), (.int .i64)], fun (x : ((Bool × (List Int)) × (List Int)) × ((Bool × (List Int)) × (List Int))) => ref03_Div.f k x.1 x.2⟩), (23, ⟨[(.int .u64)], [.flt], fun (x : Int) => math_Float64frombits.f k x⟩), (11, ⟨[(.st (.pair (.st (.pair .bool (.list (.int .u32)))) (.list (.int .u32))))], [.flt], fun (x : ((Bool × (List Int)) × (List Int))) => approx_Nearest.f k x⟩), (24, ⟨[.flt, .flt], [.bool], fun (x : Nat × Nat) => law04_same.f k x.1 x.2⟩), (25, ⟨[(.st (.pair (.st (.pair .bool (.list (.int .u32)))) (.list (.int .u32))))], [(.st (.pair (.st (.pair .bool (.list (.int .u32)))) (.list (.int .u32))))], fun (x : ((Bool × (List Int)) × (List Int))) => ref03_Neg.f k x⟩)]
def fgs : Nat → List (FuncId × FG) := fun _ => []
def fs (k : Nat) : FS := ⟨[(.int .u64)], [.bool], fun (x : Int) => law04_ApproxTies.f k x⟩
theorem ok : FnOk Try.prog 4 47 Try.f4.results.toList (Try.f4.body.getD .skip) 1 := ⟨⟨Try.f4, by kernel_rfl, by kernel_rfl, by kernel_rfl, rfl, by kernel_rfl⟩, by kernel_rfl, by decide⟩
theorem c (k : Nat) : Contract Try.prog 4 (fs k) :=
  fn_sound (ps := [(.int .u64)]) (rs := [.bool]) (pts := ptL) (fns := fns) (fgs := fgs) (fws := fws) (tys := tyTab) (main := fun k (x : Int) => law04_ApproxTies.f k x) ok mix tyOk trivial (fun k x => by kernel_rfl) (fun k => ⟨⟨ref04_Amount.c k, ref03_Add.c k, ref03_Div.c k, math_Float64frombits.c k, approx_Nearest.c k, law04_same.c k, ref03_Neg.c k, trivial⟩, trivial, trivial⟩) k
end law04_ApproxTies

namespace ref04_against
def s13 : PSig := ⟨0, [], [(7, .val (.list (.int .u32))), (8, .val (.list (.int .u32)))]⟩
def fws : Nat → List (FuncId × FW) := fun _ => []
def ptL : List (Pt (TD [(.int .i64)])) := [⟨13, s13, fun k (x : (List Int) × (List Int)) => ref04_against.p13 k x.1 x.2⟩]
def fns : Nat → List (FuncId × FS) := fun k => [(51, ⟨[(.list (.int .u32)), (.list (.int .u32))], [(.list (.int .u32))], fun (x : (List Int) × (List Int)) => ref01_Mul.f k x.1 x.2⟩), (91, ⟨[(.list (.int .u32)), (.int .i64)], [(.list (.int .u32)), (.int .i64)], fun (x : (List Int) × Int) => ref01_Shift.f k x.1 x.2⟩), (89, ⟨[(.list (.int .u32)), (.list (.int .u32))], [(.int .i64)], fun (x : (List Int) × (List Int)) => ref01_Cmp.f k x.1 x.2⟩)]
def fgs : Nat → List (FuncId × FG) := fun _ => []
def fs (k : Nat) : FS := ⟨[(.st (.pair (.st (.pair .bool (.list (.int .u32)))) (.list (.int .u32)))), (.list (.int .u32)), (.int .i64)], [(.int .i64)], fun (x : ((Bool × (List Int)) × (List Int)) × (List Int) × Int) => ref04_against.f k x.1 x.2.1 x.2.2⟩
theorem ok : FnOk Try.prog 94 34 Try.f94.results.toList (Try.f94.body.getD .skip) 3 := ⟨⟨Try.f94, by kernel_rfl, by kernel_rfl, by kernel_rfl, rfl, by kernel_rfl⟩, by kernel_rfl, by decide⟩
theorem c (k : Nat) : Contract Try.prog 94 (fs k) :=
  fn_sound (ps := [(.st (.pair (.st (.pair .bool (.list (.int .u32)))) (.list (.int .u32)))), (.list (.int .u32)), (.int .i64)]) (rs := [(.int .i64)]) (pts := ptL) (fns := fns) (fgs := fgs) (fws := fws) (tys := tyTab) (main := fun k (x : ((Bool × (List Int)) × (List Int)) × (List Int) × Int) => ref04_against.f k x.1 x.2.1 x.2.2) ok mix tyOk ⟨⟨rfl, fun _ => rfl, fun k x => by kernel_rfl⟩, trivial⟩ (fun k x => by kernel_rfl) (fun k => ⟨⟨ref01_Mul.c k, ref01_Shift.c k, ref01_Cmp.c k, trivial⟩, trivial, trivial⟩) k
end ref04_against

namespace ref04_NearestBits
def s17 : PSig := ⟨0, [], [(4, .val (.int .u64)), (5, .val (.int .u64))]⟩
def s27 : PSig := ⟨0, [], [(4, .val (.int .u64)), (5, .val (.int .u64))]⟩
def s29 : PSig := ⟨0, [], [(4, .val (.int .u64)), (5, .val (.int .u64))]⟩
def fws : Nat → List (FuncId × FW) := fun _ => []
def ptL : List (Pt (TD [(.int .u64)])) := [⟨17, s17, fun k (x : Int × Int) => ref04_NearestBits.p17 k x.1 x.2⟩, ⟨27, s27, fun k (x : Int × Int) => ref04_NearestBits.p27 k x.1 x.2⟩, ⟨29, s29, fun k (x : Int × Int) => ref04_NearestBits.p29 k x.1 x.2⟩]
def fns : Nat → List (FuncId × FS) := fun k => [(80, ⟨[(.st (.pair (.st (.pair .bool (.list (.int .u32)))) (.list (.int .u32))))], [(.st (.pair (.st (.pair .bool (.list (.int .u32)))) (.list (.int .u32)))), (.int .u64)], fun (x : ((Bool × (List Int)) × (List Int))) => ref04_amount.f k x⟩), (93, ⟨[(.list (.int .u32))], [(.int .i64)], fun (x : (List Int)) => ref01_Bits.f k x⟩), (54, ⟨[(.int .u64)], [(.list (.int .u32))], fun (x : Int) => ref01_Of.f k x⟩), (94, ⟨[(.st (.pair (.st (.pair .bool (.list (.int .u32)))) (.list (.int .u32)))), (.list (.int .u32)), (.int .i64)], [(.int .i64)], fun (x : ((Bool × (List Int)) × (List Int)) × (List Int) × Int) => ref04_against.f k x.1 x.2.1 x.2.2⟩), (82, ⟨[(.st (.pair (.st (.pair .bool (.list (.int .u32)))) (.list (.int .u32))))], [(.int .u64), .bool], fun (x : ((Bool × (List Int)) × (List Int))) => ref04_below.f k x⟩), (52, ⟨[(.int .u64)], [(.int .u64), (.int .i64)], fun (x : Int) => ref04_parts.f k x⟩)]
def fgs : Nat → List (FuncId × FG) := fun _ => []
def fs (k : Nat) : FS := ⟨[(.st (.pair (.st (.pair .bool (.list (.int .u32)))) (.list (.int .u32))))], [(.int .u64)], fun (x : ((Bool × (List Int)) × (List Int))) => ref04_NearestBits.f k x⟩
theorem ok : FnOk Try.prog 58 80 Try.f58.results.toList (Try.f58.body.getD .skip) 1 := ⟨⟨Try.f58, by kernel_rfl, by kernel_rfl, by kernel_rfl, rfl, by kernel_rfl⟩, by kernel_rfl, by decide⟩
theorem c (k : Nat) : Contract Try.prog 58 (fs k) :=
  fn_sound (ps := [(.st (.pair (.st (.pair .bool (.list (.int .u32)))) (.list (.int .u32))))]) (rs := [(.int .u64)]) (pts := ptL) (fns := fns) (fgs := fgs) (fws := fws) (tys := tyTab) (main := fun k (x : ((Bool × (List Int)) × (List Int))) => ref04_NearestBits.f k x) ok mix tyOk ⟨⟨rfl, fun _ => rfl, fun k x => by kernel_rfl⟩, ⟨rfl, fun _ => rfl, fun k x => by kernel_rfl⟩, ⟨rfl, fun _ => rfl, fun k x => by kernel_rfl⟩, trivial⟩ (fun k x => by kernel_rfl) (fun k => ⟨⟨ref04_amount.c k, ref01_Bits.c k, ref01_Of.c k, ref04_against.c k, ref04_below.c k, ref04_parts.c k, trivial⟩, trivial, trivial⟩) k
end ref04_NearestBits

namespace ref04_Nearest
def fws : Nat → List (FuncId × FW) := fun _ => []
def ptL : List (Pt (TD [.flt])) := []
def fns : Nat → List (FuncId × FS) := fun k => [(58, ⟨[(.st (.pair (.st (.pair .bool (.list (.int .u32)))) (.list (.int .u32))))], [(.int .u64)], fun (x : ((Bool × (List Int)) × (List Int))) => ref04_NearestBits.f k x⟩), (23, ⟨[(.int .u64)], [.flt], fun (x : Int) => math_Float64frombits.f k x⟩)]
def fgs : Nat → List (FuncId × FG) := fun _ => []
def fs (k : Nat) : FS := ⟨[(.st (.pair (.st (.pair .bool (.list (.int .u32)))) (.list (.int .u32))))], [.flt], fun (x : ((Bool × (List Int)) × (List Int))) => ref04_Nearest.f k x⟩
theorem ok : FnOk Try.prog 26 6 Try.f26.results.toList (Try.f26.body.getD .skip) 1 := ⟨⟨Try.f26, by kernel_rfl, by kernel_rfl, by kernel_rfl, rfl, by kernel_rfl⟩, by kernel_rfl, by decide⟩
theorem c (k : Nat) : Contract Try.prog 26 (fs k) :=
  fn_sound (ps := [(.st (.pair (.st (.pair .bool (.list (.int .u32)))) (.list (.int .u32))))]) (rs := [.flt]) (pts := ptL) (fns := fns) (fgs := fgs) (fws := fws) (tys := tyTab) (main := fun k (x : ((Bool × (List Int)) × (List Int))) => ref04_Nearest.f k x) ok mix tyOk trivial (fun k x => by kernel_rfl) (fun k => ⟨⟨ref04_NearestBits.c k, math_Float64frombits.c k, trivial⟩, trivial, trivial⟩) k
end ref04_Nearest

namespace approx_toward
def s9 : PSig := ⟨0, [(27, (.st (.pair (.st (.pair .bool (.list (.int .u32)))) (.list (.int .u32)))), true)], [(2, .ptr 0 []), (5, .val (.int .u64))]⟩
def fws : Nat → List (FuncId × FW) := fun _ => []
def ptL : List (Pt (TD [.flt])) := [⟨9, s9, fun k (x : ((Bool × (List Int)) × (List Int)) × Int) => approx_toward.p9 k x.1 x.2⟩]
def fns : Nat → List (FuncId × FS) := fun k => [(41, ⟨[(.st (.pair (.st (.pair .bool (.list (.int .u32)))) (.list (.int .u32))))], [(.st (.pair (.st (.pair .bool (.list (.int .u32)))) (.list (.int .u32))))], fun (x : ((Bool × (List Int)) × (List Int))) => ratio_Abs.f k x⟩), (40, ⟨[(.st (.pair (.st (.pair .bool (.list (.int .u32)))) (.list (.int .u32))))], [(.int .u64), (.int .i64)], fun (x : ((Bool × (List Int)) × (List Int))) => approx_rounded.f k x⟩), (43, ⟨[(.st (.pair (.st (.pair .bool (.list (.int .u32)))) (.list (.int .u32))))], [(.int .i64)], fun (x : ((Bool × (List Int)) × (List Int))) => ratio_Sign.f k x⟩), (42, ⟨[(.int .u64), (.int .i64)], [.flt], fun (x : Int × Int) => approx_float.f k x.1 x.2⟩)]
def fgs : Nat → List (FuncId × FG) := fun _ => []
def fs (k : Nat) : FS := ⟨[(.st (.pair (.st (.pair .bool (.list (.int .u32)))) (.list (.int .u32)))), .bool], [.flt], fun (x : ((Bool × (List Int)) × (List Int)) × Bool) => approx_toward.f k x.1 x.2⟩
theorem ok : FnOk Try.prog 59 24 Try.f59.results.toList (Try.f59.body.getD .skip) 2 := ⟨⟨Try.f59, by kernel_rfl, by kernel_rfl, by kernel_rfl, rfl, by kernel_rfl⟩, by kernel_rfl, by decide⟩
theorem c (k : Nat) : Contract Try.prog 59 (fs k) :=
  fn_sound (ps := [(.st (.pair (.st (.pair .bool (.list (.int .u32)))) (.list (.int .u32)))), .bool]) (rs := [.flt]) (pts := ptL) (fns := fns) (fgs := fgs) (fws := fws) (tys := tyTab) (main := fun k (x : ((Bool × (List Int)) × (List Int)) × Bool) => approx_toward.f k x.1 x.2) ok mix tyOk ⟨⟨rfl, fun _ => rfl, fun k x => by kernel_rfl⟩, trivial⟩ (fun k x => by kernel_rfl) (fun k => ⟨⟨ratio_Abs.c k, approx_rounded.c k, ratio_Sign.c k, approx_float.c k, trivial⟩, trivial, trivial⟩) k
end approx_toward

namespace approx_Down
def fws : Nat → List (FuncId × FW) := fun _ => []
def ptL : List (Pt (TD [.flt])) := []
def fns : Nat → List (FuncId × FS) := fun k => [(43, ⟨[(.st (.pair (.st (.pair .bool (.list (.int .u32)))) (.list (.int .u32))))], [(.int .i64)], fun (x : ((Bool × (List Int)) × (List Int))) => ratio_Sign.f k x⟩), (59, ⟨[(.st (.pair (.st (.pair .bool (.list (.int .u32)))) (.list (.int .u32)))), .bool], [.flt], fun (x : ((Bool × (List Int)) × (List Int)) × Bool) => approx_toward.f k x.1 x.2⟩)]
def fgs : Nat → List (FuncId × FG) := fun _ => []
def fs (k : Nat) : FS := ⟨[(.st (.pair (.st (.pair .bool (.list (.int .u32)))) (.list (.int .u32))))], [.flt], fun (x : ((Bool × (List Int)) × (List Int))) => approx_Down.f k x⟩
theorem ok : FnOk Try.prog 27 8 Try.f27.results.toList (Try.f27.body.getD .skip) 1 := ⟨⟨Try.f27, by kernel_rfl, by kernel_rfl, by kernel_rfl, rfl, by kernel_rfl⟩, by kernel_rfl, by decide⟩
theorem c (k : Nat) : Contract Try.prog 27 (fs k) :=
  fn_sound (ps := [(.st (.pair (.st (.pair .bool (.list (.int .u32)))) (.list (.int .u32))))]) (rs := [.flt]) (pts := ptL) (fns := fns) (fgs := fgs) (fws := fws) (tys := tyTab) (main := fun k (x : ((Bool × (List Int)) × (List Int))) => approx_Down.f k x) ok mix tyOk trivial (fun k x => by kernel_rfl) (fun k => ⟨⟨ratio_Sign.c k, approx_toward.c k, trivial⟩, trivial, trivial⟩) k
end approx_Down

namespace ref04_DownBits
def fws : Nat → List (FuncId × FW) := fun _ => []
def ptL : List (Pt (TD [(.int .u64)])) := []
def fns : Nat → List (FuncId × FS) := fun k => [(80, ⟨[(.st (.pair (.st (.pair .bool (.list (.int .u32)))) (.list (.int .u32))))], [(.st (.pair (.st (.pair .bool (.list (.int .u32)))) (.list (.int .u32)))), (.int .u64)], fun (x : ((Bool × (List Int)) × (List Int))) => ref04_amount.f k x⟩), (81, ⟨[(.st (.pair (.st (.pair .bool (.list (.int .u32)))) (.list (.int .u32))))], [(.int .u64)], fun (x : ((Bool × (List Int)) × (List Int))) => ref04_away.f k x⟩), (82, ⟨[(.st (.pair (.st (.pair .bool (.list (.int .u32)))) (.list (.int .u32))))], [(.int .u64), .bool], fun (x : ((Bool × (List Int)) × (List Int))) => ref04_below.f k x⟩)]
def fgs : Nat → List (FuncId × FG) := fun _ => []
def fs (k : Nat) : FS := ⟨[(.st (.pair (.st (.pair .bool (.list (.int .u32)))) (.list (.int .u32))))], [(.int .u64)], fun (x : ((Bool × (List Int)) × (List Int))) => ref04_DownBits.f k x⟩
theorem ok : FnOk Try.prog 60 24 Try.f60.results.toList (Try.f60.body.getD .skip) 1 := ⟨⟨Try.f60, by kernel_rfl, by kernel_rfl, by kernel_rfl, rfl, by kernel_rfl⟩, by kernel_rfl, by decide⟩
theorem c (k : Nat) : Contract Try.prog 60 (fs k) :=
  fn_sound (ps := [(.st (.pair (.st (.pair .bool (.list (.int .u32)))) (.list (.int .u32))))]) (rs := [(.int .u64)]) (pts := ptL) (fns := fns) (fgs := fgs) (fws := fws) (tys := tyTab) (main := fun k (x : ((Bool × (List Int)) × (List Int))) => ref04_DownBits.f k x) ok mix tyOk trivial (fun k x => by kernel_rfl) (fun k => ⟨⟨ref04_amount.c k, ref04_away.c k, ref04_below.c k, trivial⟩, trivial, trivial⟩) k
end ref04_DownBits

namespace ref04_Down
def fws : Nat → List (FuncId × FW) := fun _ => []
def ptL : List (Pt (TD [.flt])) := []
def fns : Nat → List (FuncId × FS) := fun k => [(60, ⟨[(.st (.pair (.st (.pair .bool (.list (.int .u32)))) (.list (.int .u32))))], [(.int .u64)], fun (x : ((Bool × (List Int)) × (List Int))) => ref04_DownBits.f k x⟩), (23, ⟨[(.int .u64)], [.flt], fun (x : Int) => math_Float64frombits.f k x⟩)]
def fgs : Nat → List (FuncId × FG) := fun _ => []
def fs (k : Nat) : FS := ⟨[(.st (.pair (.st (.pair .bool (.list (.int .u32)))) (.list (.int .u32))))], [.flt], fun (x : ((Bool × (List Int)) × (List Int))) => ref04_Down.f k x⟩
theorem ok : FnOk Try.prog 28 6 Try.f28.results.toList (Try.f28.body.getD .skip) 1 := ⟨⟨Try.f28, by kernel_rfl, by kernel_rfl, by kernel_rfl, rfl, by kernel_rfl⟩, by kernel_rfl, by decide⟩
theorem c (k : Nat) : Contract Try.prog 28 (fs k) :=
  fn_sound (ps := [(.st (.pair (.st (.pair .bool (.list (.int .u32)))) (.list (.int .u32))))]) (rs := [.flt]) (pts := ptL) (fns := fns) (fgs := fgs) (fws := fws) (tys := tyTab) (main := fun k (x : ((Bool × (List Int)) × (List Int))) => ref04_Down.f k x) ok mix tyOk trivial (fun k x => by kernel_rfl) (fun k => ⟨⟨ref04_DownBits.c k, math_Float64frombits.c k, trivial⟩, trivial, trivial⟩) k
end ref04_Down

namespace approx_Up
def fws : Nat → List (FuncId × FW) := fun _ => []
def ptL : List (Pt (TD [.flt])) := []
def fns : Nat → List (FuncId × FS) := fun k => [(43, ⟨[(.st (.pair (.st (.pair .bool (.list (.int .u32)))) (.list (.int .u32))))], [(.int .i64)], fun (x : ((Bool × (List Int)) × (List Int))) => ratio_Sign.f k x⟩), (59, ⟨[(.st (.pair (.st (.pair .bool (.list (.int .u32)))) (.list (.int .u32)))), .bool], [.flt], fun (x : ((Bool × (List Int)) × (List Int)) × Bool) => approx_toward.f k x.1 x.2⟩)]
def fgs : Nat → List (FuncId × FG) := fun _ => []
def fs (k : Nat) : FS := ⟨[(.st (.pair (.st (.pair .bool (.list (.int .u32)))) (.list (.int .u32))))], [.flt], fun (x : ((Bool × (List Int)) × (List Int))) => approx_Up.f k x⟩
theorem ok : FnOk Try.prog 29 8 Try.f29.results.toList (Try.f29.body.getD .skip) 1 := ⟨⟨Try.f29, by kernel_rfl, by kernel_rfl, by kernel_rfl, rfl, by kernel_rfl⟩, by kernel_rfl, by decide⟩
theorem c (k : Nat) : Contract Try.prog 29 (fs k) :=
  fn_sound (ps := [(.st (.pair (.st (.pair .bool (.list (.int .u32)))) (.list (.int .u32))))]) (rs := [.flt]) (pts := ptL) (fns := fns) (fgs := fgs) (fws := fws) (tys := tyTab) (main := fun k (x : ((Bool × (List Int)) × (List Int))) => approx_Up.f k x) ok mix tyOk trivial (fun k x => by kernel_rfl) (fun k => ⟨⟨ratio_Sign.c k, approx_toward.c k, trivial⟩, trivial, trivial⟩) k
end approx_Up

namespace law04_ApproxRounds
def s5 : PSig := ⟨0, [], []⟩
def fws : Nat → List (FuncId × FW) := fun _ => []
def ptL : List (Pt (TD [.bool])) := [⟨5, s5, fun k (x : Unit) => law04_ApproxRounds.p5 k x⟩]
def fns : Nat → List (FuncId × FS) := fun k => [(11, ⟨[(.st (.pair (.st (.pair .bool (.list (.int .u32)))) (.list (.int .u32))))], [.flt], fun (x : ((Bool × (List Int)) × (List Int))) => approx_Nearest.f k x⟩), (26, ⟨[(.st (.pair (.st (.pair .bool (.list (.int .u32)))) (.list (.int .u32))))], [.flt], fun (x : ((Bool × (List Int)) × (List Int))) => ref04_Nearest.f k x⟩), (24, ⟨[.flt, .flt], [.bool], fun (x : Nat × Nat) => law04_same.f k x.1 x.2⟩), (27, ⟨[(.st (.pair (.st (.pair .bool (.list (.int .u32)))) (.list (.int .u32))))], [.flt], fun (x : ((Bool × (List Int)) × (List Int))) => approx_Down.f k x⟩), (28, ⟨[(.st (.pair (.st (.pair .bool (.list (.int .u32)))) (.list (.int .u32))))], [.flt], fun (x : ((Bool × (List Int)) × (List Int))) => ref04_Down.f k x⟩), (29, ⟨[(.st (.pair (.st (.pair .bool (.list (.int .u32)))) (.list (.int .u32))))], [.flt], fun (x : ((Bool × (List Int)) × (List Int))) => approx_Up.f k x⟩), (12, ⟨[(.st (.pair (.st (.pair .bool (.list (.int .u32)))) (.list (.int .u32))))], [.flt], fun (x : ((Bool × (List Int)) × (List Int))) => ref04_Up.f k x⟩)]
def fgs : Nat → List (FuncId × FG) := fun _ => []
def fs (k : Nat) : FS := ⟨[(.st (.pair (.st (.pair .bool (.list (.int .u32)))) (.list (.int .u32))))], [.bool], fun (x : ((Bool × (List Int)) × (List Int))) => law04_ApproxRounds.f k x⟩
theorem ok : FnOk Try.prog 5 22 Try.f5.results.toList (Try.f5.body.getD .skip) 1 := ⟨⟨Try.f5, by kernel_rfl, by kernel_rfl, by kernel_rfl, rfl, by kernel_rfl⟩, by kernel_rfl, by decide⟩
theorem c (k : Nat) : Contract Try.prog 5 (fs k) :=
  fn_sound (ps := [(.st (.pair (.st (.pair .bool (.list (.int .u32)))) (.list (.int .u32))))]) (rs := [.bool]) (pts := ptL) (fns := fns) (fgs := fgs) (fws := fws) (tys := tyTab) (main := fun k (x : ((Bool × (List Int)) × (List Int))) => law04_ApproxRounds.f k x) ok mix tyOk ⟨⟨rfl, fun _ => rfl, fun k x => by kernel_rfl⟩, trivial⟩ (fun k x => by kernel_rfl) (fun k => ⟨⟨approx_Nearest.c k, ref04_Nearest.c k, law04_same.c k, approx_Down.c k, ref04_Down.c k, approx_Up.c k, ref04_Up.c k, trivial⟩, trivial, trivial⟩) k
end law04_ApproxRounds

namespace math_IsNaN
def fws : Nat → List (FuncId × FW) := fun _ => []
def ptL : List (Pt (TD [.bool])) := []
def fns : Nat → List (FuncId × FS) := fun _ => []
def fgs : Nat → List (FuncId × FG) := fun _ => []
def fs (k : Nat) : FS := ⟨[.flt], [.bool], fun (x : Nat) => math_IsNaN.f k x⟩
theorem ok : FnOk Try.prog 61 6 Try.f61.results.toList (Try.f61.body.getD .skip) 1 := ⟨⟨Try.f61, by kernel_rfl, by kernel_rfl, by kernel_rfl, rfl, by kernel_rfl⟩, by kernel_rfl, by decide⟩
theorem c (k : Nat) : Contract Try.prog 61 (fs k) :=
  fn_sound (ps := [.flt]) (rs := [.bool]) (pts := ptL) (fns := fns) (fgs := fgs) (fws := fws) (tys := tyTab) (main := fun k (x : Nat) => math_IsNaN.f k x) ok mix tyOk trivial (fun k x => by kernel_rfl) (fun _ => ⟨trivial, trivial, trivial⟩) k
end math_IsNaN

namespace math_Abs
def fws : Nat → List (FuncId × FW) := fun _ => []
def ptL : List (Pt (TD [.flt])) := []
def fns : Nat → List (FuncId × FS) := fun k => [(15, ⟨[.flt], [(.int .u64)], fun (x : Nat) => math_Float64bits.f k x⟩), (23, ⟨[(.int .u64)], [.flt], fun (x : Int) => math_Float64frombits.f k x⟩)]
def fgs : Nat → List (FuncId × FG) := fun _ => []
def fs (k : Nat) : FS := ⟨[.flt], [.flt], fun (x : Nat) => math_Abs.f k x⟩
theorem ok : FnOk Try.prog 95 7 Try.f95.results.toList (Try.f95.body.getD .skip) 1 := ⟨⟨Try.f95, by kernel_rfl, by kernel_rfl, by kernel_rfl, rfl, by kernel_rfl⟩, by kernel_rfl, by decide⟩
theorem c (k : Nat) : Contract Try.prog 95 (fs k) :=
  fn_sound (ps := [.flt]) (rs := [.flt]) (pts := ptL) (fns := fns) (fgs := fgs) (fws := fws) (tys := tyTab) (main := fun k (x : Nat) => math_Abs.f k x) ok mix tyOk trivial (fun k x => by kernel_rfl) (fun k => ⟨⟨math_Float64bits.c k, math_Float64frombits.c k, trivial⟩, trivial, trivial⟩) k
end math_Abs

namespace math_IsInf
def s11 : PSig := ⟨0, [], [(0, .val .flt)]⟩
def fws : Nat → List (FuncId × FW) := fun _ => []
def ptL : List (Pt (TD [.bool])) := [⟨11, s11, fun k (x : Nat) => math_IsInf.p11 k x⟩]
def fns : Nat → List (FuncId × FS) := fun k => [(95, ⟨[.flt], [.flt], fun (x : Nat) => math_Abs.f k x⟩)]
def fgs : Nat → List (FuncId × FG) := fun _ => []
def fs (k : Nat) : FS := ⟨[.flt, (.int .i64)], [.bool], fun (x : Nat × Int) => math_IsInf.f k x.1 x.2⟩
theorem ok : FnOk Try.prog 62 15 Try.f62.results.toList (Try.f62.body.getD .skip) 2 := ⟨⟨Try.f62, by kernel_rfl, by kernel_rfl, by kernel_rfl, rfl, by kernel_rfl⟩, by kernel_rfl, by decide⟩
theorem c (k : Nat) : Contract Try.prog 62 (fs k) :=
  fn_sound (ps := [.flt, (.int .i64)]) (rs := [.bool]) (pts := ptL) (fns := fns) (fgs := fgs) (fws := fws) (tys := tyTab) (main := fun k (x : Nat × Int) => math_IsInf.f k x.1 x.2) ok mix tyOk ⟨⟨rfl, fun _ => rfl, fun k x => by kernel_rfl⟩, trivial⟩ (fun k x => by kernel_rfl) (fun k => ⟨⟨math_Abs.c k, trivial⟩, trivial, trivial⟩) k
end math_IsInf

namespace nat_Of
def fws : Nat → List (FuncId × FW) := fun _ => []
def ptL : List (Pt (TD [(.list (.int .u32))])) := []
def fns : Nat → List (FuncId × FS) := fun k => [(96, ⟨[(.list (.int .u32))], [(.list (.int .u32))], fun (x : (List Int)) => nat_own.f k x⟩)]
def fgs : Nat → List (FuncId × FG) := fun _ => []
def fs (k : Nat) : FS := ⟨[(.int .u64)], [(.list (.int .u32))], fun (x : Int) => nat_Of.f k x⟩
theorem ok : FnOk Try.prog 63 10 Try.f63.results.toList (Try.f63.body.getD .skip) 1 := ⟨⟨Try.f63, by kernel_rfl, by kernel_rfl, by kernel_rfl, rfl, by kernel_rfl⟩, by kernel_rfl, by decide⟩
theorem c (k : Nat) : Contract Try.prog 63 (fs k) :=
  fn_sound (ps := [(.int .u64)]) (rs := [(.list (.int .u32))]) (pts := ptL) (fns := fns) (fgs := fgs) (fws := fws) (tys := tyTab) (main := fun k (x : Int) => nat_Of.f k x) ok mix tyOk trivial (fun k x => by kernel_rfl) (fun k => ⟨⟨nat_own.c k, trivial⟩, trivial, trivial⟩) k
end nat_Of

namespace whole_Of
def fws : Nat → List (FuncId × FW) := fun _ => []
def ptL : List (Pt (TD [(.st (.pair .bool (.list (.int .u32))))])) := []
def fns : Nat → List (FuncId × FS) := fun k => [(63, ⟨[(.int .u64)], [(.list (.int .u32))], fun (x : Int) => nat_Of.f k x⟩), (99, ⟨[(.list (.int .u32)), (.list (.int .i64))], [(.st (.pair .bool (.list (.int .u32))))], fun (x : (List Int) × (List Int)) => whole_signed.f k x.1 x.2⟩)]
def fgs : Nat → List (FuncId × FG) := fun _ => []
def fs (k : Nat) : FS := ⟨[(.int .i64)], [(.st (.pair .bool (.list (.int .u32))))], fun (x : Int) => whole_Of.f k x⟩
theorem ok : FnOk Try.prog 65 15 Try.f65.results.toList (Try.f65.body.getD .skip) 1 := ⟨⟨Try.f65, by kernel_rfl, by kernel_rfl, by kernel_rfl, rfl, by kernel_rfl⟩, by kernel_rfl, by decide⟩
theorem c (k : Nat) : Contract Try.prog 65 (fs k) :=
  fn_sound (ps := [(.int .i64)]) (rs := [(.st (.pair .bool (.list (.int .u32))))]) (pts := ptL) (fns := fns) (fgs := fgs) (fws := fws) (tys := tyTab) (main := fun k (x : Int) => whole_Of.f k x) ok mix tyOk trivial (fun k x => by kernel_rfl) (fun k => ⟨⟨nat_Of.c k, whole_signed.c k, trivial⟩, trivial, trivial⟩) k
end whole_Of

namespace ratio_Of
def s11 : PSig := ⟨0, [(25, (.st (.pair .bool (.list (.int .u32)))), true), (25, (.st (.pair .bool (.list (.int .u32)))), true), (27, (.st (.pair (.st (.pair .bool (.list (.int .u32)))) (.list (.int .u32)))), true)], [(2, .ptr 0 []), (3, .ptr 1 []), (4, .ptr 2 [])]⟩
def fws : Nat → List (FuncId × FW) := fun _ => []
def ptL : List (Pt (TD [(.st (.pair (.st (.pair .bool (.list (.int .u32)))) (.list (.int .u32)))), (.int .i64)])) := [⟨11, s11, fun k (x : (Bool × (List Int)) × (Bool × (List Int)) × ((Bool × (List Int)) × (List Int))) => ratio_Of.p11 k x.1 x.2.1 x.2.2⟩]
def fns : Nat → List (FuncId × FS) := fun k => [(79, ⟨[(.st (.pair .bool (.list (.int .u32))))], [(.int .i64)], fun (x : (Bool × (List Int))) => whole_Sign.f k x⟩), (97, ⟨[(.st (.pair .bool (.list (.int .u32))))], [(.st (.pair .bool (.list (.int .u32))))], fun (x : (Bool × (List Int))) => whole_Neg.f k x⟩), (98, ⟨[(.st (.pair .bool (.list (.int .u32)))), (.list (.int .u32))], [(.st (.pair (.st (.pair .bool (.list (.int .u32)))) (.list (.int .u32))))], fun (x : (Bool × (List Int)) × (List Int)) => ratio_made.f k x.1 x.2⟩)]
def fgs : Nat → List (FuncId × FG) := fun _ => []
def fs (k : Nat) : FS := ⟨[(.st (.pair .bool (.list (.int .u32)))), (.st (.pair .bool (.list (.int .u32))))], [(.st (.pair (.st (.pair .bool (.list (.int .u32)))) (.list (.int .u32)))), (.int .i64)], fun (x : (Bool × (List Int)) × (Bool × (List Int))) => ratio_Of.f k x.1 x.2⟩
theorem ok : FnOk Try.prog 64 19 Try.f64.results.toList (Try.f64.body.getD .skip) 2 := ⟨⟨Try.f64, by kernel_rfl, by kernel_rfl, by kernel_rfl, rfl, by kernel_rfl⟩, by kernel_rfl, by decide⟩
theorem c (k : Nat) : Contract Try.prog 64 (fs k) :=
  fn_sound (ps := [(.st (.pair .bool (.list (.int .u32)))), (.st (.pair .bool (.list (.int .u32))))]) (rs := [(.st (.pair (.st (.pair .bool (.list (.int .u32)))) (.list (.int .u32)))), (.int .i64)]) (pts := ptL) (fns := fns) (fgs := fgs) (fws := fws) (tys := tyTab) (main := fun k (x : (Bool × (List Int)) × (Bool × (List Int))) => ratio_Of.f k x.1 x.2) ok mix tyOk ⟨⟨rfl, fun _ => rfl, fun k x => by kernel_rfl⟩, trivial⟩ (fun k x => by kernel_rfl) (fun k => ⟨⟨whole_Sign.c k, whole_Neg.c k, ratio_made.c k, trivial⟩, trivial, trivial⟩) k
end ratio_Of

namespace ratio_Inv
def fws : Nat → List (FuncId × FW) := fun _ => []
def ptL : List (Pt (TD [(.st (.pair (.st (.pair .bool (.list (.int .u32)))) (.list (.int .u32)))), (.int .i64)])) := []
def fns : Nat → List (FuncId × FS) := fun k => [(78, ⟨[(.st (.pair (.st (.pair .bool (.list (.int .u32)))) (.list (.int .u32))))], [(.st (.pair (.st (.pair .bool (.list (.int .u32)))) (.list (.int .u32))))], fun (x : ((Bool × (List Int)) × (List Int))) => ratio_Norm.f k x⟩), (64, ⟨[(.st (.pair .bool (.list (.int .u32)))), (.st (.pair .bool (.list (.int .u32))))], [(.st (.pair (.st (.pair .bool (.list (.int .u32)))) (.list (.int .u32)))), (.int .i64)], fun (x : (Bool × (List Int)) × (Bool × (List Int))) => ratio_Of.f k x.1 x.2⟩)]
def fgs : Nat → List (FuncId × FG) := fun _ => []
def fs (k : Nat) : FS := ⟨[(.st (.pair (.st (.pair .bool (.list (.int .u32)))) (.list (.int .u32))))], [(.st (.pair (.st (.pair .bool (.list (.int .u32)))) (.list (.int .u32)))), (.int .i64)], fun (x : ((Bool × (List Int)) × (List Int))) => ratio_Inv.f k x⟩
theorem ok : FnOk Try.prog 103 14 Try.f103.results.toList (Try.f103.body.getD .skip) 1 := ⟨⟨Try.f103, by kernel_rfl, by kernel_rfl, by kernel_rfl, rfl, by kernel_rfl⟩, by kernel_rfl, by decide⟩
theorem c (k : Nat) : Contract Try.prog 103 (fs k) :=
  fn_sound (ps := [(.st (.pair (.st (.pair .bool (.list (.int .u32)))) (.list (.int .u32))))]) (rs := [(.st (.pair (.st (.pair .bool (.list (.int .u32)))) (.list (.int .u32)))), (.int .i64)]) (pts := ptL) (fns := fns) (fgs := fgs) (fws := fws) (tys := tyTab) (main := fun k (x : ((Bool × (List Int)) × (List Int))) => ratio_Inv.f k x) ok mix tyOk trivial (fun k x => by kernel_rfl) (fun k => ⟨⟨ratio_Norm.c k, ratio_Of.c k, trivial⟩, trivial, trivial⟩) k
end ratio_Inv

namespace approx_two
def s11 : PSig := ⟨0, [(27, (.st (.pair (.st (.pair .bool (.list (.int .u32)))) (.list (.int .u32)))), true), (27, (.st (.pair (.st (.pair .bool (.list (.int .u32)))) (.list (.int .u32)))), true)], [(2, .ptr 0 []), (5, .ptr 1 [])]⟩
def fws : Nat → List (FuncId × FW) := fun _ => []
def ptL : List (Pt (TD [(.st (.pair (.st (.pair .bool (.list (.int .u32)))) (.list (.int .u32))))])) := [⟨11, s11, fun k (x : ((Bool × (List Int)) × (List Int)) × ((Bool × (List Int)) × (List Int))) => approx_two.p11 k x.1 x.2⟩]
def fns : Nat → List (FuncId × FS) := fun k => [(63, ⟨[(.int .u64)], [(.list (.int .u32))], fun (x : Int) => nat_Of.f k x⟩), (102, ⟨[(.list (.int .u32)), (.int .i64)], [(.list (.int .u32)), (.int .i64)], fun (x : (List Int) × Int) => nat_Shift.f k x.1 x.2⟩), (65, ⟨[(.int .i64)], [(.st (.pair .bool (.list (.int .u32))))], fun (x : Int) => whole_Of.f k x⟩), (64, ⟨[(.st (.pair .bool (.list (.int .u32)))), (.st (.pair .bool (.list (.int .u32))))], [(.st (.pair (.st (.pair .bool (.list (.int .u32)))) (.list (.int .u32)))), (.int .i64)], fun (x : (Bool × (List Int)) × (Bool × (List Int))) => ratio_Of.f k x.1 x.2⟩), (103, ⟨[(.st (.pair (.st (.pair .bool (.list (.int .u32)))) (.list (.int .u32))))], [(.st (.pair (.st (.pair .bool (.list (.int .u32)))) (.list (.int .u32)))), (.int .i64)], fun (x : ((Bool × (List Int)) × (List Int))) => ratio_Inv.f k x⟩)]
def fgs : Nat → List (FuncId × FG) := fun _ => []
def fs (k : Nat) : FS := ⟨[(.int .i64)], [(.st (.pair (.st (.pair .bool (.list (.int .u32)))) (.list (.int .u32))))], fun (x : Int) => approx_two.f k x⟩
theorem ok : FnOk Try.prog 67 31 Try.f67.results.toList (Try.f67.body.getD .skip) 1 := ⟨⟨Try.f67, by kernel_rfl, by kernel_rfl, by kernel_rfl, rfl, by kernel_rfl⟩, by kernel_rfl, by decide⟩
theorem c (k : Nat) : Contract Try.prog 67 (fs k) :=
  fn_sound (ps := [(.int .i64)]) (rs := [(.st (.pair (.st (.pair .bool (.list (.int .u32)))) (.list (.int .u32))))]) (pts := ptL) (fns := fns) (fgs := fgs) (fws := fws) (tys := tyTab) (main := fun k (x : Int) => approx_two.f k x) ok mix tyOk ⟨⟨rfl, fun _ => rfl, fun k x => by kernel_rfl⟩, trivial⟩ (fun k x => by kernel_rfl) (fun k => ⟨⟨nat_Of.c k, nat_Shift.c k, whole_Of.c k, ratio_Of.c k, ratio_Inv.c k, trivial⟩, trivial, trivial⟩) k
end approx_two

namespace nat_Mul
def s0 : PSig := ⟨0, [(44, (.int .u32), false)], [(0, .val (.list (.int .u32))), (1, .val (.list (.int .u32))), (5, .own 0), (21, .val (.int .i64)), (22, .val (.int .i64))]⟩
def s4 : PSig := ⟨0, [(44, (.int .u32), false)], [(0, .val (.list (.int .u32))), (1, .val (.list (.int .u32))), (5, .own 0), (6, .val (.int .i64)), (7, .val (.int .u64)), (21, .val (.int .i64)), (22, .val (.int .i64)), (26, .val (.int .i64)), (27, .val (.int .i64))]⟩
def fws : Nat → List (FuncId × FW) := fun _ => []
def ptL : List (Pt (TD [(.list (.int .u32))])) := [⟨0, s0, fun k (x : (List Int) × (List Int) × (List Int) × Int × Int) => nat_Mul.p0 k x.1 x.2.1 x.2.2.1 x.2.2.2.1 x.2.2.2.2⟩, ⟨4, s4, fun k (x : (List Int) × (List Int) × (List Int) × Int × Int × Int × Int × Int × Int) => nat_Mul.p4 k x.1 x.2.1 x.2.2.1 x.2.2.2.1 x.2.2.2.2.1 x.2.2.2.2.2.1 x.2.2.2.2.2.2.1 x.2.2.2.2.2.2.2.1 x.2.2.2.2.2.2.2.2⟩]
def fns : Nat → List (FuncId × FS) := fun k => [(105, ⟨[(.list (.int .u32))], [(.list (.int .u32))], fun (x : (List Int)) => nat_trim.f k x⟩), (96, ⟨[(.list (.int .u32))], [(.list (.int .u32))], fun (x : (List Int)) => nat_own.f k x⟩)]
def fgs : Nat → List (FuncId × FG) := fun _ => []
def fs (k : Nat) : FS := ⟨[(.list (.int .u32)), (.list (.int .u32))], [(.list (.int .u32))], fun (x : (List Int) × (List Int)) => nat_Mul.f k x.1 x.2⟩
theorem ok : FnOk Try.prog 101 72 Try.f101.results.toList (Try.f101.body.getD .skip) 2 := ⟨⟨Try.f101, by kernel_rfl, by kernel_rfl, by kernel_rfl, rfl, by kernel_rfl⟩, by kernel_rfl, by decide⟩
theorem c (k : Nat) : Contract Try.prog 101 (fs k) :=
  fn_sound (ps := [(.list (.int .u32)), (.list (.int .u32))]) (rs := [(.list (.int .u32))]) (pts := ptL) (fns := fns) (fgs := fgs) (fws := fws) (tys := tyTab) (main := fun k (x : (List Int) × (List Int)) => nat_Mul.f k x.1 x.2) ok mix tyOk ⟨⟨rfl, fun _ => rfl, fun k x => by kernel_rfl⟩, ⟨rfl, fun _ => rfl, fun k x => by kernel_rfl⟩, trivial⟩ (fun k x => by kernel_rfl) (fun k => ⟨⟨nat_trim.c k, nat_own.c k, trivial⟩, trivial, trivial⟩) k
end nat_Mul

namespace whole_Mul
def fws : Nat → List (FuncId × FW) := fun _ => []
def ptL : List (Pt (TD [(.st (.pair .bool (.list (.int .u32))))])) := []
def fns : Nat → List (FuncId × FS) := fun k => [(101, ⟨[(.list (.int .u32)), (.list (.int .u32))], [(.list (.int .u32))], fun (x : (List Int) × (List Int)) => nat_Mul.f k x.1 x.2⟩), (79, ⟨[(.st (.pair .bool (.list (.int .u32))))], [(.int .i64)], fun (x : (Bool × (List Int))) => whole_Sign.f k x⟩), (99, ⟨[(.list (.int .u32)), (.list (.int .i64))], [(.st (.pair .bool (.list (.int .u32))))], fun (x : (List Int) × (List Int)) => whole_signed.f k x.1 x.2⟩)]
def fgs : Nat → List (FuncId × FG) := fun _ => []
def fs (k : Nat) : FS := ⟨[(.st (.pair .bool (.list (.int .u32)))), (.st (.pair .bool (.list (.int .u32))))], [(.st (.pair .bool (.list (.int .u32))))], fun (x : (Bool × (List Int)) × (Bool × (List Int))) => whole_Mul.f k x.1 x.2⟩
theorem ok : FnOk Try.prog 100 16 Try.f100.results.toList (Try.f100.body.getD .skip) 2 := ⟨⟨Try.f100, by kernel_rfl, by kernel_rfl, by kernel_rfl, rfl, by kernel_rfl⟩, by kernel_rfl, by decide⟩
theorem c (k : Nat) : Contract Try.prog 100 (fs k) :=
  fn_sound (ps := [(.st (.pair .bool (.list (.int .u32)))), (.st (.pair .bool (.list (.int .u32))))]) (rs := [(.st (.pair .bool (.list (.int .u32))))]) (pts := ptL) (fns := fns) (fgs := fgs) (fws := fws) (tys := tyTab) (main := fun k (x : (Bool × (List Int)) × (Bool × (List Int))) => whole_Mul.f k x.1 x.2) ok mix tyOk trivial (fun k x => by kernel_rfl) (fun k => ⟨⟨nat_Mul.c k, whole_Sign.c k, whole_signed.c k, trivial⟩, trivial, trivial⟩) k
end whole_Mul

namespace ratio_Mul
def fws : Nat → List (FuncId × FW) := fun _ => []
def ptL : List (Pt (TD [(.st (.pair (.st (.pair .bool (.list (.int .u32)))) (.list (.int .u32))))])) := []
def fns : Nat → List (FuncId × FS) := fun k => [(78, ⟨[(.st (.pair (.st (.pair .bool (.list (.int .u32)))) (.list (.int .u32))))], [(.st (.pair (.st (.pair .bool (.list (.int .u32)))) (.list (.int .u32))))], fun (x : ((Bool × (List Int)) × (List Int))) => ratio_Norm.f k x⟩), (100, ⟨[(.st (.pair .bool (.list (.int .u32)))), (.st (.pair .bool (.list (.int .u32))))], [(.st (.pair .bool (.list (.int .u32))))], fun (x : (Bool × (List Int)) × (Bool × (List Int))) => whole_Mul.f k x.1 x.2⟩), (101, ⟨[(.list (.int .u32)), (.list (.int .u32))], [(.list (.int .u32))], fun (x : (List Int) × (List Int)) => nat_Mul.f k x.1 x.2⟩), (98, ⟨[(.st (.pair .bool (.list (.int .u32)))), (.list (.int .u32))], [(.st (.pair (.st (.pair .bool (.list (.int .u32)))) (.list (.int .u32))))], fun (x : (Bool × (List Int)) × (List Int)) => ratio_made.f k x.1 x.2⟩)]
def fgs : Nat → List (FuncId × FG) := fun _ => []
def fs (k : Nat) : FS := ⟨[(.st (.pair (.st (.pair .bool (.list (.int .u32)))) (.list (.int .u32)))), (.st (.pair (.st (.pair .bool (.list (.int .u32)))) (.list (.int .u32))))], [(.st (.pair (.st (.pair .bool (.list (.int .u32)))) (.list (.int .u32))))], fun (x : ((Bool × (List Int)) × (List Int)) × ((Bool × (List Int)) × (List Int))) => ratio_Mul.f k x.1 x.2⟩
theorem ok : FnOk Try.prog 66 20 Try.f66.results.toList (Try.f66.body.getD .skip) 2 := ⟨⟨Try.f66, by kernel_rfl, by kernel_rfl, by kernel_rfl, rfl, by kernel_rfl⟩, by kernel_rfl, by decide⟩
theorem c (k : Nat) : Contract Try.prog 66 (fs k) :=
  fn_sound (ps := [(.st (.pair (.st (.pair .bool (.list (.int .u32)))) (.list (.int .u32)))), (.st (.pair (.st (.pair .bool (.list (.int .u32)))) (.list (.int .u32))))]) (rs := [(.st (.pair (.st (.pair .bool (.list (.int .u32)))) (.list (.int .u32))))]) (pts := ptL) (fns := fns) (fgs := fgs) (fws := fws) (tys := tyTab) (main := fun k (x : ((Bool × (List Int)) × (List Int)) × ((Bool × (List Int)) × (List Int))) => ratio_Mul.f k x.1 x.2) ok mix tyOk trivial (fun k x => by kernel_rfl) (fun k => ⟨⟨ratio_Norm.c k, whole_Mul.c k, nat_Mul.c k, ratio_made.c k, trivial⟩, trivial, trivial⟩) k
end ratio_Mul

namespace approx_Exact
def s21 : PSig := ⟨0, [(27, (.st (.pair (.st (.pair .bool (.list (.int .u32)))) (.list (.int .u32)))), true)], [(0, .val .flt), (2, .ptr 0 []), (5, .val (.int .u64)), (6, .val (.int .i64))]⟩
def fws : Nat → List (FuncId × FW) := fun _ => []
def ptL : List (Pt (TD [(.st (.pair (.st (.pair .bool (.list (.int .u32)))) (.list (.int .u32)))), (.int .i64)])) := [⟨21, s21, fun k (x : ((Bool × (List Int)) × (List Int)) × Nat × Int × Int) => approx_Exact.p21 k x.1 x.2.1 x.2.2.1 x.2.2.2⟩]
def fns : Nat → List (FuncId × FS) := fun k => [(61, ⟨[.flt], [.bool], fun (x : Nat) => math_IsNaN.f k x⟩), (62, ⟨[.flt, (.int .i64)], [.bool], fun (x : Nat × Int) => math_IsInf.f k x.1 x.2⟩), (15, ⟨[.flt], [(.int .u64)], fun (x : Nat) => math_Float64bits.f k x⟩), (63, ⟨[(.int .u64)], [(.list (.int .u32))], fun (x : Int) => nat_Of.f k x⟩), (65, ⟨[(.int .i64)], [(.st (.pair .bool (.list (.int .u32))))], fun (x : Int) => whole_Of.f k x⟩), (64, ⟨[(.st (.pair .bool (.list (.int .u32)))), (.st (.pair .bool (.list (.int .u32))))], [(.st (.pair (.st (.pair .bool (.list (.int .u32)))) (.list (.int .u32)))), (.int .i64)], fun (x : (Bool × (List Int)) × (Bool × (List Int))) => ratio_Of.f k x.1 x.2⟩), (67, ⟨[(.int .i64)], [(.st (.pair (.st (.pair .bool (.list (.int .u32)))) (.list (.int .u32))))], fun (x : Int) => approx_two.f k x⟩), (66, ⟨[(.st (.pair (.st (.pair .bool (.list (.int .u32)))) (.list (.int .u32)))), (.st (.pair (.st (.pair .bool (.list (.int .u32)))) (.list (.int .u32))))], [(.st (.pair (.st (.pair .bool (.list (.int .u32)))) (.list (.int .u32))))], fun (x : ((Bool × (List Int)) × (List Int)) × ((Bool × (List Int)) × (List Int))) => ratio_Mul.f k x.1 x.2⟩)]
def fgs : Nat → List (FuncId × FG) := fun _ => []
def fs (k : Nat) : FS := ⟨[.flt], [(.st (.pair (.st (.pair .bool (.list (.int .u32)))) (.list (.int .u32)))), (.int .i64)], fun (x : Nat) => approx_Exact.f k x⟩
theorem ok : FnOk Try.prog 30 48 Try.f30.results.toList (Try.f30.body.getD .skip) 1 := ⟨⟨Try.f30, by kernel_rfl, by kernel_rfl, by kernel_rfl, rfl, by kernel_rfl⟩, by kernel_rfl, by decide⟩
theorem c (k : Nat) : Contract Try.prog 30 (fs k) :=
  fn_sound (ps := [.flt]) (rs := [(.st (.pair (.st (.pair .bool (.list (.int .u32)))) (.list (.int .u32)))), (.int .i64)]) (pts := ptL) (fns := fns) (fgs := fgs) (fws := fws) (tys := tyTab) (main := fun k (x : Nat) => approx_Exact.f k x) ok mix tyOk ⟨⟨rfl, fun _ => rfl, fun k x => by kernel_rfl⟩, trivial⟩ (fun k x => by kernel_rfl) (fun k => ⟨⟨math_IsNaN.c k, math_IsInf.c k, math_Float64bits.c k, nat_Of.c k, whole_Of.c k, ratio_Of.c k, approx_two.c k, ratio_Mul.c k, trivial⟩, trivial, trivial⟩) k
end approx_Exact

namespace ref04_Exact
def fws : Nat → List (FuncId × FW) := fun _ => []
def ptL : List (Pt (TD [(.st (.pair (.st (.pair .bool (.list (.int .u32)))) (.list (.int .u32)))), (.int .i64)])) := []
def fns : Nat → List (FuncId × FS) := fun k => [(15, ⟨[.flt], [(.int .u64)], fun (x : Nat) => math_Float64bits.f k x⟩), (14, ⟨[(.int .u64)], [.bool], fun (x : Int) => ref04_IsNaN.f k x⟩), (39, ⟨[(.int .u64)], [.bool], fun (x : Int) => ref04_IsInf.f k x⟩), (47, ⟨[(.int .u64)], [(.st (.pair (.st (.pair .bool (.list (.int .u32)))) (.list (.int .u32))))], fun (x : Int) => ref04_Number.f k x⟩), (45, ⟨[(.st (.pair (.st (.pair .bool (.list (.int .u32)))) (.list (.int .u32))))], [(.st (.pair (.st (.pair .bool (.list (.int .u32)))) (.list (.int .u32))))], fun (x : ((Bool × (List Int)) × (List Int))) => ref03_Norm.f k x⟩)]
def fgs : Nat → List (FuncId × FG) := fun _ => []
def fs (k : Nat) : FS := ⟨[.flt], [(.st (.pair (.st (.pair .bool (.list (.int .u32)))) (.list (.int .u32)))), (.int .i64)], fun (x : Nat) => ref04_Exact.f k x⟩
theorem ok : FnOk Try.prog 31 16 Try.f31.results.toList (Try.f31.body.getD .skip) 1 := ⟨⟨Try.f31, by kernel_rfl, by kernel_rfl, by kernel_rfl, rfl, by kernel_rfl⟩, by kernel_rfl, by decide⟩
theorem c (k : Nat) : Contract Try.prog 31 (fs k) :=
  fn_sound (ps := [.flt]) (rs := [(.st (.pair (.st (.pair .bool (.list (.int .u32)))) (.list (.int .u32)))), (.int .i64)]) (pts := ptL) (fns := fns) (fgs := fgs) (fws := fws) (tys := tyTab) (main := fun k (x : Nat) => ref04_Exact.f k x) ok mix tyOk trivial (fun k x => by kernel_rfl) (fun k => ⟨⟨math_Float64bits.c k, ref04_IsNaN.c k, ref04_IsInf.c k, ref04_Number.c k, ref03_Norm.c k, trivial⟩, trivial, trivial⟩) k
end ref04_Exact

namespace mem_SameNat
def s0 : PSig := ⟨0, [], [(0, .val (.list (.int .u32))), (1, .val (.list (.int .u32))), (5, .val (.int .i64))]⟩
def fws : Nat → List (FuncId × FW) := fun _ => []
def ptL : List (Pt (TD [.bool])) := [⟨0, s0, fun k (x : (List Int) × (List Int) × Int) => mem_SameNat.p0 k x.1 x.2.1 x.2.2⟩]
def fns : Nat → List (FuncId × FS) := fun _ => []
def fgs : Nat → List (FuncId × FG) := fun _ => []
def fs (k : Nat) : FS := ⟨[(.list (.int .u32)), (.list (.int .u32))], [.bool], fun (x : (List Int) × (List Int)) => mem_SameNat.f k x.1 x.2⟩
theorem ok : FnOk Try.prog 69 26 Try.f69.results.toList (Try.f69.body.getD .skip) 2 := ⟨⟨Try.f69, by kernel_rfl, by kernel_rfl, by kernel_rfl, rfl, by kernel_rfl⟩, by kernel_rfl, by decide⟩
theorem c (k : Nat) : Contract Try.prog 69 (fs k) :=
  fn_sound (ps := [(.list (.int .u32)), (.list (.int .u32))]) (rs := [.bool]) (pts := ptL) (fns := fns) (fgs := fgs) (fws := fws) (tys := tyTab) (main := fun k (x : (List Int) × (List Int)) => mem_SameNat.f k x.1 x.2) ok mix tyOk ⟨⟨rfl, fun _ => rfl, fun k x => by kernel_rfl⟩, trivial⟩ (fun k x => by kernel_rfl) (fun _ => ⟨trivial, trivial, trivial⟩) k
end mem_SameNat

namespace mem_SameInt
def fws : Nat → List (FuncId × FW) := fun _ => []
def ptL : List (Pt (TD [.bool])) := []
def fns : Nat → List (FuncId × FS) := fun k => [(69, ⟨[(.list (.int .u32)), (.list (.int .u32))], [.bool], fun (x : (List Int) × (List Int)) => mem_SameNat.f k x.1 x.2⟩)]
def fgs : Nat → List (FuncId × FG) := fun _ => []
def fs (k : Nat) : FS := ⟨[(.st (.pair .bool (.list (.int .u32)))), (.st (.pair .bool (.list (.int .u32))))], [.bool], fun (x : (Bool × (List Int)) × (Bool × (List Int))) => mem_SameInt.f k x.1 x.2⟩
theorem ok : FnOk Try.prog 68 17 Try.f68.results.toList (Try.f68.body.getD .skip) 2 := ⟨⟨Try.f68, by kernel_rfl, by kernel_rfl, by kernel_rfl, rfl, by kernel_rfl⟩, by kernel_rfl, by decide⟩
theorem c (k : Nat) : Contract Try.prog 68 (fs k) :=
  fn_sound (ps := [(.st (.pair .bool (.list (.int .u32)))), (.st (.pair .bool (.list (.int .u32))))]) (rs := [.bool]) (pts := ptL) (fns := fns) (fgs := fgs) (fws := fws) (tys := tyTab) (main := fun k (x : (Bool × (List Int)) × (Bool × (List Int))) => mem_SameInt.f k x.1 x.2) ok mix tyOk trivial (fun k x => by kernel_rfl) (fun k => ⟨⟨mem_SameNat.c k, trivial⟩, trivial, trivial⟩) k
end mem_SameInt

namespace mem_SameRat
def fws : Nat → List (FuncId × FW) := fun _ => []
def ptL : List (Pt (TD [.bool])) := []
def fns : Nat → List (FuncId × FS) := fun k => [(68, ⟨[(.st (.pair .bool (.list (.int .u32)))), (.st (.pair .bool (.list (.int .u32))))], [.bool], fun (x : (Bool × (List Int)) × (Bool × (List Int))) => mem_SameInt.f k x.1 x.2⟩), (69, ⟨[(.list (.int .u32)), (.list (.int .u32))], [.bool], fun (x : (List Int) × (List Int)) => mem_SameNat.f k x.1 x.2⟩)]
def fgs : Nat → List (FuncId × FG) := fun _ => []
def fs (k : Nat) : FS := ⟨[(.st (.pair (.st (.pair .bool (.list (.int .u32)))) (.list (.int .u32)))), (.st (.pair (.st (.pair .bool (.list (.int .u32)))) (.list (.int .u32))))], [.bool], fun (x : ((Bool × (List Int)) × (List Int)) × ((Bool × (List Int)) × (List Int))) => mem_SameRat.f k x.1 x.2⟩
theorem ok : FnOk Try.prog 32 17 Try.f32.results.toList (Try.f32.body.getD .skip) 2 := ⟨⟨Try.f32, by kernel_rfl, by kernel_rfl, by kernel_rfl, rfl, by kernel_rfl⟩, by kernel_rfl, by decide⟩
theorem c (k : Nat) : Contract Try.prog 32 (fs k) :=
  fn_sound (ps := [(.st (.pair (.st (.pair .bool (.list (.int .u32)))) (.list (.int .u32)))), (.st (.pair (.st (.pair .bool (.list (.int .u32)))) (.list (.int .u32))))]) (rs := [.bool]) (pts := ptL) (fns := fns) (fgs := fgs) (fws := fws) (tys := tyTab) (main := fun k (x : ((Bool × (List Int)) × (List Int)) × ((Bool × (List Int)) × (List Int))) => mem_SameRat.f k x.1 x.2) ok mix tyOk trivial (fun k x => by kernel_rfl) (fun k => ⟨⟨mem_SameInt.c k, mem_SameNat.c k, trivial⟩, trivial, trivial⟩) k
end mem_SameRat

namespace approx_Next
def fws : Nat → List (FuncId × FW) := fun _ => []
def ptL : List (Pt (TD [.flt, (.int .i64)])) := []
def fns : Nat → List (FuncId × FS) := fun k => [(15, ⟨[.flt], [(.int .u64)], fun (x : Nat) => math_Float64bits.f k x⟩), (61, ⟨[.flt], [.bool], fun (x : Nat) => math_IsNaN.f k x⟩), (62, ⟨[.flt, (.int .i64)], [.bool], fun (x : Nat × Int) => math_IsInf.f k x.1 x.2⟩), (23, ⟨[(.int .u64)], [.flt], fun (x : Int) => math_Float64frombits.f k x⟩)]
def fgs : Nat → List (FuncId × FG) := fun _ => []
def fs (k : Nat) : FS := ⟨[.flt], [.flt, (.int .i64)], fun (x : Nat) => approx_Next.f k x⟩
theorem ok : FnOk Try.prog 33 25 Try.f33.results.toList (Try.f33.body.getD .skip) 1 := ⟨⟨Try.f33, by kernel_rfl, by kernel_rfl, by kernel_rfl, rfl, by kernel_rfl⟩, by kernel_rfl, by decide⟩
theorem c (k : Nat) : Contract Try.prog 33 (fs k) :=
  fn_sound (ps := [.flt]) (rs := [.flt, (.int .i64)]) (pts := ptL) (fns := fns) (fgs := fgs) (fws := fws) (tys := tyTab) (main := fun k (x : Nat) => approx_Next.f k x) ok mix tyOk trivial (fun k x => by kernel_rfl) (fun k => ⟨⟨math_Float64bits.c k, math_IsNaN.c k, math_IsInf.c k, math_Float64frombits.c k, trivial⟩, trivial, trivial⟩) k
end approx_Next

namespace ref04_Next
def s23 : PSig := ⟨0, [], [(4, .val (.int .u64))]⟩
def fws : Nat → List (FuncId × FW) := fun _ => []
def ptL : List (Pt (TD [.flt, (.int .i64)])) := [⟨23, s23, fun k (x : Int) => ref04_Next.p23 k x⟩]
def fns : Nat → List (FuncId × FS) := fun k => [(15, ⟨[.flt], [(.int .u64)], fun (x : Nat) => math_Float64bits.f k x⟩), (14, ⟨[(.int .u64)], [.bool], fun (x : Int) => ref04_IsNaN.f k x⟩), (23, ⟨[(.int .u64)], [.flt], fun (x : Int) => math_Float64frombits.f k x⟩)]
def fgs : Nat → List (FuncId × FG) := fun _ => []
def fs (k : Nat) : FS := ⟨[.flt], [.flt, (.int .i64)], fun (x : Nat) => ref04_Next.f k x⟩
theorem ok : FnOk Try.prog 34 26 Try.f34.results.toList (Try.f34.body.getD .skip) 1 := ⟨⟨Try.f34, by kernel_rfl, by kernel_rfl, by kernel_rfl, rfl, by kernel_rfl⟩, by kernel_rfl, by decide⟩
theorem c (k : Nat) : Contract Try.prog 34 (fs k) :=
  fn_sound (ps := [.flt]) (rs := [.flt, (.int .i64)]) (pts := ptL) (fns := fns) (fgs := fgs) (fws := fws) (tys := tyTab) (main := fun k (x : Nat) => ref04_Next.f k x) ok mix tyOk ⟨⟨rfl, fun _ => rfl, fun k x => by kernel_rfl⟩, trivial⟩ (fun k x => by kernel_rfl) (fun k => ⟨⟨math_Float64bits.c k, ref04_IsNaN.c k, math_Float64frombits.c k, trivial⟩, trivial, trivial⟩) k
end ref04_Next

namespace approx_Prev
def fws : Nat → List (FuncId × FW) := fun _ => []
def ptL : List (Pt (TD [.flt, (.int .i64)])) := []
def fns : Nat → List (FuncId × FS) := fun k => [(33, ⟨[.flt], [.flt, (.int .i64)], fun (x : Nat) => approx_Next.f k x⟩)]
def fgs : Nat → List (FuncId × FG) := fun _ => []
def fs (k : Nat) : FS := ⟨[.flt], [.flt, (.int .i64)], fun (x : Nat) => approx_Prev.f k x⟩
theorem ok : FnOk Try.prog 35 17 Try.f35.results.toList (Try.f35.body.getD .skip) 1 := ⟨⟨Try.f35, by kernel_rfl, by kernel_rfl, by kernel_rfl, rfl, by kernel_rfl⟩, by kernel_rfl, by decide⟩
theorem c (k : Nat) : Contract Try.prog 35 (fs k) :=
  fn_sound (ps := [.flt]) (rs := [.flt, (.int .i64)]) (pts := ptL) (fns := fns) (fgs := fgs) (fws := fws) (tys := tyTab) (main := fun k (x : Nat) => approx_Prev.f k x) ok mix tyOk trivial (fun k x => by kernel_rfl) (fun k => ⟨⟨approx_Next.c k, trivial⟩, trivial, trivial⟩) k
end approx_Prev

namespace ref04_Prev
def fws : Nat → List (FuncId × FW) := fun _ => []
def ptL : List (Pt (TD [.flt, (.int .i64)])) := []
def fns : Nat → List (FuncId × FS) := fun k => [(15, ⟨[.flt], [(.int .u64)], fun (x : Nat) => math_Float64bits.f k x⟩), (14, ⟨[(.int .u64)], [.bool], fun (x : Int) => ref04_IsNaN.f k x⟩), (23, ⟨[(.int .u64)], [.flt], fun (x : Int) => math_Float64frombits.f k x⟩), (34, ⟨[.flt], [.flt, (.int .i64)], fun (x : Nat) => ref04_Next.f k x⟩)]
def fgs : Nat → List (FuncId × FG) := fun _ => []
def fs (k : Nat) : FS := ⟨[.flt], [.flt, (.int .i64)], fun (x : Nat) => ref04_Prev.f k x⟩
theorem ok : FnOk Try.prog 36 25 Try.f36.results.toList (Try.f36.body.getD .skip) 1 := ⟨⟨Try.f36, by kernel_rfl, by kernel_rfl, by kernel_rfl, rfl, by kernel_rfl⟩, by kernel_rfl, by decide⟩
theorem c (k : Nat) : Contract Try.prog 36 (fs k) :=
  fn_sound (ps := [.flt]) (rs := [.flt, (.int .i64)]) (pts := ptL) (fns := fns) (fgs := fgs) (fws := fws) (tys := tyTab) (main := fun k (x : Nat) => ref04_Prev.f k x) ok mix tyOk trivial (fun k x => by kernel_rfl) (fun k => ⟨⟨math_Float64bits.c k, ref04_IsNaN.c k, math_Float64frombits.c k, ref04_Next.c k, trivial⟩, trivial, trivial⟩) k
end ref04_Prev

namespace law04_ApproxSteps
def s9 : PSig := ⟨0, [], []⟩
def s17 : PSig := ⟨0, [], []⟩
def fws : Nat → List (FuncId × FW) := fun _ => []
def ptL : List (Pt (TD [.bool])) := [⟨9, s9, fun k (x : Unit) => law04_ApproxSteps.p9 k x⟩, ⟨17, s17, fun k (x : Unit) => law04_ApproxSteps.p17 k x⟩]
def fns : Nat → List (FuncId × FS) := fun k => [(30, ⟨[.flt], [(.st (.pair (.st (.pair .bool (.list (.int .u32)))) (.list (.int .u32)))), (.int .i64)], fun (x : Nat) => approx_Exact.f k x⟩), (31, ⟨[.flt], [(.st (.pair (.st (.pair .bool (.list (.int .u32)))) (.list (.int .u32)))), (.int .i64)], fun (x : Nat) => ref04_Exact.f k x⟩), (32, ⟨[(.st (.pair (.st (.pair .bool (.list (.int .u32)))) (.list (.int .u32)))), (.st (.pair (.st (.pair .bool (.list (.int .u32)))) (.list (.int .u32))))], [.bool], fun (x : ((Bool × (List Int)) × (List Int)) × ((Bool × (List Int)) × (List Int))) => mem_SameRat.f k x.1 x.2⟩), (33, ⟨[.flt], [.flt, (.int .i64)], fun (x : Nat) => approx_Next.f k x⟩), (34, ⟨[.flt], [.flt, (.int .i64)], fun (x : Nat) => ref04_Next.f k x⟩), (24, ⟨[.flt, .flt], [.bool], fun (x : Nat × Nat) => law04_same.f k x.1 x.2⟩), (35, ⟨[.flt], [.flt, (.int .i64)], fun (x : Nat) => approx_Prev.f k x⟩), (36, ⟨[.flt], [.flt, (.int .i64)], fun (x : Nat) => ref04_Prev.f k x⟩)]
def fgs : Nat → List (FuncId × FG) := fun _ => []
def fs (k : Nat) : FS := ⟨[.flt], [.bool], fun (x : Nat) => law04_ApproxSteps.f k x⟩
theorem ok : FnOk Try.prog 6 65 Try.f6.results.toList (Try.f6.body.getD .skip) 1 := ⟨⟨Try.f6, by kernel_rfl, by kernel_rfl, by kernel_rfl, rfl, by kernel_rfl⟩, by kernel_rfl, by decide⟩
theorem c (k : Nat) : Contract Try.prog 6 (fs k) :=
  fn_sound (ps := [.flt]) (rs := [.bool]) (pts := ptL) (fns := fns) (fgs := fgs) (fws := fws) (tys := tyTab) (main := fun k (x : Nat) => law04_ApproxSteps.f k x) ok mix tyOk ⟨⟨rfl, fun _ => rfl, fun k x => by kernel_rfl⟩, ⟨rfl, fun _ => rfl, fun k x => by kernel_rfl⟩, trivial⟩ (fun k x => by kernel_rfl) (fun k => ⟨⟨approx_Exact.c k, ref04_Exact.c k, mem_SameRat.c k, approx_Next.c k, ref04_Next.c k, law04_same.c k, approx_Prev.c k, ref04_Prev.c k, trivial⟩, trivial, trivial⟩) k
end law04_ApproxSteps

namespace law04_ApproxBeside
def s11 : PSig := ⟨0, [], []⟩
def s13 : PSig := ⟨0, [(27, (.st (.pair (.st (.pair .bool (.list (.int .u32)))) (.list (.int .u32)))), true)], [(1, .ptr 0 []), (3, .val .flt), (5, .val .flt)]⟩
def s21 : PSig := ⟨0, [], []⟩
def s27 : PSig := ⟨0, [(27, (.st (.pair (.st (.pair .bool (.list (.int .u32)))) (.list (.int .u32)))), true)], [(1, .ptr 0 []), (5, .val .flt)]⟩
def fws : Nat → List (FuncId × FW) := fun _ => []
def ptL : List (Pt (TD [.bool])) := [⟨11, s11, fun k (x : Unit) => law04_ApproxBeside.p11 k x⟩, ⟨13, s13, fun k (x : ((Bool × (List Int)) × (List Int)) × Nat × Nat) => law04_ApproxBeside.p13 k x.1 x.2.1 x.2.2⟩, ⟨21, s21, fun k (x : Unit) => law04_ApproxBeside.p21 k x⟩, ⟨27, s27, fun k (x : ((Bool × (List Int)) × (List Int)) × Nat) => law04_ApproxBeside.p27 k x.1 x.2⟩]
def fns : Nat → List (FuncId × FS) := fun k => [(27, ⟨[(.st (.pair (.st (.pair .bool (.list (.int .u32)))) (.list (.int .u32))))], [.flt], fun (x : ((Bool × (List Int)) × (List Int))) => approx_Down.f k x⟩), (11, ⟨[(.st (.pair (.st (.pair .bool (.list (.int .u32)))) (.list (.int .u32))))], [.flt], fun (x : ((Bool × (List Int)) × (List Int))) => approx_Nearest.f k x⟩), (29, ⟨[(.st (.pair (.st (.pair .bool (.list (.int .u32)))) (.list (.int .u32))))], [.flt], fun (x : ((Bool × (List Int)) × (List Int))) => approx_Up.f k x⟩), (18, ⟨[.flt], [(.st (.pair (.st (.pair .bool (.list (.int .u32)))) (.list (.int .u32))))], fun (x : Nat) => law04_number.f k x⟩), (19, ⟨[(.st (.pair (.st (.pair .bool (.list (.int .u32)))) (.list (.int .u32)))), (.st (.pair (.st (.pair .bool (.list (.int .u32)))) (.list (.int .u32))))], [(.int .i64)], fun (x : ((Bool × (List Int)) × (List Int)) × ((Bool × (List Int)) × (List Int))) => ref03_Cmp.f k x.1 x.2⟩), (33, ⟨[.flt], [.flt, (.int .i64)], fun (x : Nat) => approx_Next.f k x⟩), (10, ⟨[.flt], [.bool], fun (x : Nat) => law04_finite.f k x⟩)]
def fgs : Nat → List (FuncId × FG) := fun _ => []
def fs (k : Nat) : FS := ⟨[(.st (.pair (.st (.pair .bool (.list (.int .u32)))) (.list (.int .u32))))], [.bool], fun (x : ((Bool × (List Int)) × (List Int))) => law04_ApproxBeside.f k x⟩
theorem ok : FnOk Try.prog 7 72 Try.f7.results.toList (Try.f7.body.getD .skip) 1 := ⟨⟨Try.f7, by kernel_rfl, by kernel_rfl, by kernel_rfl, rfl, by kernel_rfl⟩, by kernel_rfl, by decide⟩
theorem c (k : Nat) : Contract Try.prog 7 (fs k) :=
  fn_sound (ps := [(.st (.pair (.st (.pair .bool (.list (.int .u32)))) (.list (.int .u32))))]) (rs := [.bool]) (pts := ptL) (fns := fns) (fgs := fgs) (fws := fws) (tys := tyTab) (main := fun k (x : ((Bool × (List Int)) × (List Int))) => law04_ApproxBeside.f k x) ok mix tyOk ⟨⟨rfl, fun _ => rfl, fun k x => by kernel_rfl⟩, ⟨rfl, fun _ => rfl, fun k x => by kernel_rfl⟩, ⟨rfl, fun _ => rfl, fun k x => by kernel_rfl⟩, ⟨rfl, fun _ => rfl, fun k x => by kernel_rfl⟩, trivial⟩ (fun k x => by kernel_rfl) (fun k => ⟨⟨approx_Down.c k, approx_Nearest.c k, approx_Up.c k, law04_number.c k, ref03_Cmp.c k, approx_Next.c k, law04_finite.c k, trivial⟩, trivial, trivial⟩) k
end law04_ApproxBeside

namespace law04_ApproxRises
def s7 : PSig := ⟨0, [(27, (.st (.pair (.st (.pair .bool (.list (.int .u32)))) (.list (.int .u32)))), true), (27, (.st (.pair (.st (.pair .bool (.list (.int .u32)))) (.list (.int .u32)))), true)], [(2, .ptr 0 []), (3, .ptr 1 [])]⟩
def fws : Nat → List (FuncId × FW) := fun _ => []
def ptL : List (Pt (TD [.bool])) := [⟨7, s7, fun k (x : ((Bool × (List Int)) × (List Int)) × ((Bool × (List Int)) × (List Int))) => law04_ApproxRises.p7 k x.1 x.2⟩]
def fns : Nat → List (FuncId × FS) := fun k => [(19, ⟨[(.st (.pair (.st (.pair .bool (.list (.int .u32)))) (.list (.int .u32)))), (.st (.pair (.st (.pair .bool (.list (.int .u32)))) (.list (.int .u32))))], [(.int .i64)], fun (x : ((Bool × (List Int)) × (List Int)) × ((Bool × (List Int)) × (List Int))) => ref03_Cmp.f k x.1 x.2⟩), (11, ⟨[(.st (.pair (.st (.pair .bool (.list (.int .u32)))) (.list (.int .u32))))], [.flt], fun (x : ((Bool × (List Int)) × (List Int))) => approx_Nearest.f k x⟩), (30, ⟨[.flt], [(.st (.pair (.st (.pair .bool (.list (.int .u32)))) (.list (.int .u32)))), (.int .i64)], fun (x : Nat) => approx_Exact.f k x⟩), (16, ⟨[(.st (.pair (.st (.pair .bool (.list (.int .u32)))) (.list (.int .u32))))], [(.int .i64)], fun (x : ((Bool × (List Int)) × (List Int))) => ref03_Sign.f k x⟩), (27, ⟨[(.st (.pair (.st (.pair .bool (.list (.int .u32)))) (.list (.int .u32))))], [.flt], fun (x : ((Bool × (List Int)) × (List Int))) => approx_Down.f k x⟩), (29, ⟨[(.st (.pair (.st (.pair .bool (.list (.int .u32)))) (.list (.int .u32))))], [.flt], fun (x : ((Bool × (List Int)) × (List Int))) => approx_Up.f k x⟩)]
def fgs : Nat → List (FuncId × FG) := fun _ => []
def fs (k : Nat) : FS := ⟨[(.st (.pair (.st (.pair .bool (.list (.int .u32)))) (.list (.int .u32)))), (.st (.pair (.st (.pair .bool (.list (.int .u32)))) (.list (.int .u32))))], [.bool], fun (x : ((Bool × (List Int)) × (List Int)) × ((Bool × (List Int)) × (List Int))) => law04_ApproxRises.f k x.1 x.2⟩
theorem ok : FnOk Try.prog 8 48 Try.f8.results.toList (Try.f8.body.getD .skip) 2 := ⟨⟨Try.f8, by kernel_rfl, by kernel_rfl, by kernel_rfl, rfl, by kernel_rfl⟩, by kernel_rfl, by decide⟩
theorem c (k : Nat) : Contract Try.prog 8 (fs k) :=
  fn_sound (ps := [(.st (.pair (.st (.pair .bool (.list (.int .u32)))) (.list (.int .u32)))), (.st (.pair (.st (.pair .bool (.list (.int .u32)))) (.list (.int .u32))))]) (rs := [.bool]) (pts := ptL) (fns := fns) (fgs := fgs) (fws := fws) (tys := tyTab) (main := fun k (x : ((Bool × (List Int)) × (List Int)) × ((Bool × (List Int)) × (List Int))) => law04_ApproxRises.f k x.1 x.2) ok mix tyOk ⟨⟨rfl, fun _ => rfl, fun k x => by kernel_rfl⟩, trivial⟩ (fun k x => by kernel_rfl) (fun k => ⟨⟨ref03_Cmp.c k, approx_Nearest.c k, approx_Exact.c k, ref03_Sign.c k, approx_Down.c k, approx_Up.c k, trivial⟩, trivial, trivial⟩) k
end law04_ApproxRises

namespace nat_Sub
def s0 : PSig := ⟨0, [(44, (.int .u32), false)], [(0, .val (.list (.int .u32))), (1, .val (.list (.int .u32))), (6, .own 0), (7, .val (.int .u32)), (20, .val (.int .i64)), (21, .val (.int .i64))]⟩
def s25 : PSig := ⟨0, [(44, (.int .u32), false)], [(0, .val (.list (.int .u32))), (1, .val (.list (.int .u32))), (6, .own 0), (7, .val (.int .u32)), (8, .val (.int .i64)), (9, .val (.int .u32)), (20, .val (.int .i64)), (21, .val (.int .i64))]⟩
def fws : Nat → List (FuncId × FW) := fun _ => []
def ptL : List (Pt (TD [(.list (.int .u32)), (.int .i64)])) := [⟨0, s0, fun k (x : (List Int) × (List Int) × (List Int) × Int × Int × Int) => nat_Sub.p0 k x.1 x.2.1 x.2.2.1 x.2.2.2.1 x.2.2.2.2.1 x.2.2.2.2.2⟩, ⟨25, s25, fun k (x : (List Int) × (List Int) × (List Int) × Int × Int × Int × Int × Int) => nat_Sub.p25 k x.1 x.2.1 x.2.2.1 x.2.2.2.1 x.2.2.2.2.1 x.2.2.2.2.2.1 x.2.2.2.2.2.2.1 x.2.2.2.2.2.2.2⟩]
def fns : Nat → List (FuncId × FS) := fun k => [(75, ⟨[(.list (.int .u32)), (.list (.int .u32))], [(.int .i64)], fun (x : (List Int) × (List Int)) => nat_Cmp.f k x.1 x.2⟩), (105, ⟨[(.list (.int .u32))], [(.list (.int .u32))], fun (x : (List Int)) => nat_trim.f k x⟩), (122, ⟨[(.int .u32), (.int .u32), (.int .u32)], [(.int .u32), (.int .u32)], fun (x : Int × Int × Int) => bits_Sub32.f k x.1 x.2.1 x.2.2⟩), (96, ⟨[(.list (.int .u32))], [(.list (.int .u32))], fun (x : (List Int)) => nat_own.f k x⟩)]
def fgs : Nat → List (FuncId × FG) := fun _ => []
def fs (k : Nat) : FS := ⟨[(.list (.int .u32)), (.list (.int .u32))], [(.list (.int .u32)), (.int .i64)], fun (x : (List Int) × (List Int)) => nat_Sub.f k x.1 x.2⟩
theorem ok : FnOk Try.prog 119 48 Try.f119.results.toList (Try.f119.body.getD .skip) 2 := ⟨⟨Try.f119, by kernel_rfl, by kernel_rfl, by kernel_rfl, rfl, by kernel_rfl⟩, by kernel_rfl, by decide⟩
theorem c (k : Nat) : Contract Try.prog 119 (fs k) :=
  fn_sound (ps := [(.list (.int .u32)), (.list (.int .u32))]) (rs := [(.list (.int .u32)), (.int .i64)]) (pts := ptL) (fns := fns) (fgs := fgs) (fws := fws) (tys := tyTab) (main := fun k (x : (List Int) × (List Int)) => nat_Sub.f k x.1 x.2) ok mix tyOk ⟨⟨rfl, fun _ => rfl, fun k x => by kernel_rfl⟩, ⟨rfl, fun _ => rfl, fun k x => by kernel_rfl⟩, trivial⟩ (fun k x => by kernel_rfl) (fun k => ⟨⟨nat_Cmp.c k, nat_trim.c k, bits_Sub32.c k, nat_own.c k, trivial⟩, trivial, trivial⟩) k
end nat_Sub

namespace whole_Add
def fws : Nat → List (FuncId × FW) := fun _ => []
def ptL : List (Pt (TD [(.st (.pair .bool (.list (.int .u32))))])) := []
def fns : Nat → List (FuncId × FS) := fun k => [(79, ⟨[(.st (.pair .bool (.list (.int .u32))))], [(.int .i64)], fun (x : (Bool × (List Int))) => whole_Sign.f k x⟩), (76, ⟨[(.list (.int .u32)), (.list (.int .u32))], [(.list (.int .u32))], fun (x : (List Int) × (List Int)) => nat_Add.f k x.1 x.2⟩), (99, ⟨[(.list (.int .u32)), (.list (.int .i64))], [(.st (.pair .bool (.list (.int .u32))))], fun (x : (List Int) × (List Int)) => whole_signed.f k x.1 x.2⟩), (75, ⟨[(.list (.int .u32)), (.list (.int .u32))], [(.int .i64)], fun (x : (List Int) × (List Int)) => nat_Cmp.f k x.1 x.2⟩), (119, ⟨[(.list (.int .u32)), (.list (.int .u32))], [(.list (.int .u32)), (.int .i64)], fun (x : (List Int) × (List Int)) => nat_Sub.f k x.1 x.2⟩)]
def fgs : Nat → List (FuncId × FG) := fun _ => []
def fs (k : Nat) : FS := ⟨[(.st (.pair .bool (.list (.int .u32)))), (.st (.pair .bool (.list (.int .u32))))], [(.st (.pair .bool (.list (.int .u32))))], fun (x : (Bool × (List Int)) × (Bool × (List Int))) => whole_Add.f k x.1 x.2⟩
theorem ok : FnOk Try.prog 104 60 Try.f104.results.toList (Try.f104.body.getD .skip) 2 := ⟨⟨Try.f104, by kernel_rfl, by kernel_rfl, by kernel_rfl, rfl, by kernel_rfl⟩, by kernel_rfl, by decide⟩
theorem c (k : Nat) : Contract Try.prog 104 (fs k) :=
  fn_sound (ps := [(.st (.pair .bool (.list (.int .u32)))), (.st (.pair .bool (.list (.int .u32))))]) (rs := [(.st (.pair .bool (.list (.int .u32))))]) (pts := ptL) (fns := fns) (fgs := fgs) (fws := fws) (tys := tyTab) (main := fun k (x : (Bool × (List Int)) × (Bool × (List Int))) => whole_Add.f k x.1 x.2) ok mix tyOk trivial (fun k x => by kernel_rfl) (fun k => ⟨⟨whole_Sign.c k, nat_Add.c k, whole_signed.c k, nat_Cmp.c k, nat_Sub.c k, trivial⟩, trivial, trivial⟩) k
end whole_Add

namespace ratio_Add
def fws : Nat → List (FuncId × FW) := fun _ => []
def ptL : List (Pt (TD [(.st (.pair (.st (.pair .bool (.list (.int .u32)))) (.list (.int .u32))))])) := []
def fns : Nat → List (FuncId × FS) := fun k => [(78, ⟨[(.st (.pair (.st (.pair .bool (.list (.int .u32)))) (.list (.int .u32))))], [(.st (.pair (.st (.pair .bool (.list (.int .u32)))) (.list (.int .u32))))], fun (x : ((Bool × (List Int)) × (List Int))) => ratio_Norm.f k x⟩), (100, ⟨[(.st (.pair .bool (.list (.int .u32)))), (.st (.pair .bool (.list (.int .u32))))], [(.st (.pair .bool (.list (.int .u32))))], fun (x : (Bool × (List Int)) × (Bool × (List Int))) => whole_Mul.f k x.1 x.2⟩), (104, ⟨[(.st (.pair .bool (.list (.int .u32)))), (.st (.pair .bool (.list (.int .u32))))], [(.st (.pair .bool (.list (.int .u32))))], fun (x : (Bool × (List Int)) × (Bool × (List Int))) => whole_Add.f k x.1 x.2⟩), (101, ⟨[(.list (.int .u32)), (.list (.int .u32))], [(.list (.int .u32))], fun (x : (List Int) × (List Int)) => nat_Mul.f k x.1 x.2⟩), (98, ⟨[(.st (.pair .bool (.list (.int .u32)))), (.list (.int .u32))], [(.st (.pair (.st (.pair .bool (.list (.int .u32)))) (.list (.int .u32))))], fun (x : (Bool × (List Int)) × (List Int)) => ratio_made.f k x.1 x.2⟩)]
def fgs : Nat → List (FuncId × FG) := fun _ => []
def fs (k : Nat) : FS := ⟨[(.st (.pair (.st (.pair .bool (.list (.int .u32)))) (.list (.int .u32)))), (.st (.pair (.st (.pair .bool (.list (.int .u32)))) (.list (.int .u32))))], [(.st (.pair (.st (.pair .bool (.list (.int .u32)))) (.list (.int .u32))))], fun (x : ((Bool × (List Int)) × (List Int)) × ((Bool × (List Int)) × (List Int))) => ratio_Add.f k x.1 x.2⟩
theorem ok : FnOk Try.prog 71 30 Try.f71.results.toList (Try.f71.body.getD .skip) 2 := ⟨⟨Try.f71, by kernel_rfl, by kernel_rfl, by kernel_rfl, rfl, by kernel_rfl⟩, by kernel_rfl, by decide⟩
theorem c (k : Nat) : Contract Try.prog 71 (fs k) :=
  fn_sound (ps := [(.st (.pair (.st (.pair .bool (.list (.int .u32)))) (.list (.int .u32)))), (.st (.pair (.st (.pair .bool (.list (.int .u32)))) (.list (.int .u32))))]) (rs := [(.st (.pair (.st (.pair .bool (.list (.int .u32)))) (.list (.int .u32))))]) (pts := ptL) (fns := fns) (fgs := fgs) (fws := fws) (tys := tyTab) (main := fun k (x : ((Bool × (List Int)) × (List Int)) × ((Bool × (List Int)) × (List Int))) => ratio_Add.f k x.1 x.2) ok mix tyOk trivial (fun k x => by kernel_rfl) (fun k => ⟨⟨ratio_Norm.c k, whole_Mul.c k, whole_Add.c k, nat_Mul.c k, ratio_made.c k, trivial⟩, trivial, trivial⟩) k
end ratio_Add

namespace approx_half
def fws : Nat → List (FuncId × FW) := fun _ => []
def ptL : List (Pt (TD [(.st (.pair (.st (.pair .bool (.list (.int .u32)))) (.list (.int .u32))))])) := []
def fns : Nat → List (FuncId × FS) := fun k => [(67, ⟨[(.int .i64)], [(.st (.pair (.st (.pair .bool (.list (.int .u32)))) (.list (.int .u32))))], fun (x : Int) => approx_two.f k x⟩), (66, ⟨[(.st (.pair (.st (.pair .bool (.list (.int .u32)))) (.list (.int .u32)))), (.st (.pair (.st (.pair .bool (.list (.int .u32)))) (.list (.int .u32))))], [(.st (.pair (.st (.pair .bool (.list (.int .u32)))) (.list (.int .u32))))], fun (x : ((Bool × (List Int)) × (List Int)) × ((Bool × (List Int)) × (List Int))) => ratio_Mul.f k x.1 x.2⟩)]
def fgs : Nat → List (FuncId × FG) := fun _ => []
def fs (k : Nat) : FS := ⟨[(.st (.pair (.st (.pair .bool (.list (.int .u32)))) (.list (.int .u32))))], [(.st (.pair (.st (.pair .bool (.list (.int .u32)))) (.list (.int .u32))))], fun (x : ((Bool × (List Int)) × (List Int))) => approx_half.f k x⟩
theorem ok : FnOk Try.prog 70 6 Try.f70.results.toList (Try.f70.body.getD .skip) 1 := ⟨⟨Try.f70, by kernel_rfl, by kernel_rfl, by kernel_rfl, rfl, by kernel_rfl⟩, by kernel_rfl, by decide⟩
theorem c (k : Nat) : Contract Try.prog 70 (fs k) :=
  fn_sound (ps := [(.st (.pair (.st (.pair .bool (.list (.int .u32)))) (.list (.int .u32))))]) (rs := [(.st (.pair (.st (.pair .bool (.list (.int .u32)))) (.list (.int .u32))))]) (pts := ptL) (fns := fns) (fgs := fgs) (fws := fws) (tys := tyTab) (main := fun k (x : ((Bool × (List Int)) × (List Int))) => approx_half.f k x) ok mix tyOk trivial (fun k x => by kernel_rfl) (fun k => ⟨⟨approx_two.c k, ratio_Mul.c k, trivial⟩, trivial, trivial⟩) k
end approx_half

namespace approx_Mid
def s5 : PSig := ⟨0, [], []⟩
def s13 : PSig := ⟨0, [], []⟩
def fws : Nat → List (FuncId × FW) := fun _ => []
def ptL : List (Pt (TD [.flt, (.int .i64)])) := [⟨5, s5, fun k (x : Unit) => approx_Mid.p5 k x⟩, ⟨13, s13, fun k (x : Unit) => approx_Mid.p13 k x⟩]
def fns : Nat → List (FuncId × FS) := fun k => [(61, ⟨[.flt], [.bool], fun (x : Nat) => math_IsNaN.f k x⟩), (30, ⟨[.flt], [(.st (.pair (.st (.pair .bool (.list (.int .u32)))) (.list (.int .u32)))), (.int .i64)], fun (x : Nat) => approx_Exact.f k x⟩), (71, ⟨[(.st (.pair (.st (.pair .bool (.list (.int .u32)))) (.list (.int .u32)))), (.st (.pair (.st (.pair .bool (.list (.int .u32)))) (.list (.int .u32))))], [(.st (.pair (.st (.pair .bool (.list (.int .u32)))) (.list (.int .u32))))], fun (x : ((Bool × (List Int)) × (List Int)) × ((Bool × (List Int)) × (List Int))) => ratio_Add.f k x.1 x.2⟩), (70, ⟨[(.st (.pair (.st (.pair .bool (.list (.int .u32)))) (.list (.int .u32))))], [(.st (.pair (.st (.pair .bool (.list (.int .u32)))) (.list (.int .u32))))], fun (x : ((Bool × (List Int)) × (List Int))) => approx_half.f k x⟩), (11, ⟨[(.st (.pair (.st (.pair .bool (.list (.int .u32)))) (.list (.int .u32))))], [.flt], fun (x : ((Bool × (List Int)) × (List Int))) => approx_Nearest.f k x⟩)]
def fgs : Nat → List (FuncId × FG) := fun _ => []
def fs (k : Nat) : FS := ⟨[.flt, .flt], [.flt, (.int .i64)], fun (x : Nat × Nat) => approx_Mid.f k x.1 x.2⟩
theorem ok : FnOk Try.prog 37 37 Try.f37.results.toList (Try.f37.body.getD .skip) 2 := ⟨⟨Try.f37, by kernel_rfl, by kernel_rfl, by kernel_rfl, rfl, by kernel_rfl⟩, by kernel_rfl, by decide⟩
theorem c (k : Nat) : Contract Try.prog 37 (fs k) :=
  fn_sound (ps := [.flt, .flt]) (rs := [.flt, (.int .i64)]) (pts := ptL) (fns := fns) (fgs := fgs) (fws := fws) (tys := tyTab) (main := fun k (x : Nat × Nat) => approx_Mid.f k x.1 x.2) ok mix tyOk ⟨⟨rfl, fun _ => rfl, fun k x => by kernel_rfl⟩, ⟨rfl, fun _ => rfl, fun k x => by kernel_rfl⟩, trivial⟩ (fun k x => by kernel_rfl) (fun k => ⟨⟨math_IsNaN.c k, approx_Exact.c k, ratio_Add.c k, approx_half.c k, approx_Nearest.c k, trivial⟩, trivial, trivial⟩) k
end approx_Mid

namespace ref04_Mid
def s9 : PSig := ⟨0, [], []⟩
def s13 : PSig := ⟨0, [], []⟩
def fws : Nat → List (FuncId × FW) := fun _ => []
def ptL : List (Pt (TD [.flt, (.int .i64)])) := [⟨9, s9, fun k (x : Unit) => ref04_Mid.p9 k x⟩, ⟨13, s13, fun k (x : Unit) => ref04_Mid.p13 k x⟩]
def fns : Nat → List (FuncId × FS) := fun k => [(15, ⟨[.flt], [(.int .u64)], fun (x : Nat) => math_Float64bits.f k x⟩), (14, ⟨[(.int .u64)], [.bool], fun (x : Int) => ref04_IsNaN.f k x⟩), (39, ⟨[(.int .u64)], [.bool], fun (x : Int) => ref04_IsInf.f k x⟩), (47, ⟨[(.int .u64)], [(.st (.pair (.st (.pair .bool (.list (.int .u32)))) (.list (.int .u32))))], fun (x : Int) => ref04_Number.f k x⟩), (20, ⟨[(.st (.pair (.st (.pair .bool (.list (.int .u32)))) (.list (.int .u32)))), (.st (.pair (.st (.pair .bool (.list (.int .u32)))) (.list (.int .u32))))], [(.st (.pair (.st (.pair .bool (.list (.int .u32)))) (.list (.int .u32))))], fun (x : ((Bool × (List Int)) × (List Int)) × ((Bool × (List Int)) × (List Int))) => ref03_Add.f k x.1 x.2⟩), (55, ⟨[(.int .i64)], [(.st (.pair (.st (.pair .bool (.list (.int .u32)))) (.list (.int .u32))))], fun (x : Int) => ref04_power.f k x⟩), (53, ⟨[(.st (.pair (.st (.pair .bool (.list (.int .u32)))) (.list (.int .u32)))), (.st (.pair (.st (.pair .bool (.list (.int .u32)))) (.list (.int .u32))))], [(.st (.pair (.st (.pair .bool (.list (.int .u32)))) (.list (.int .u32))))], fun (x : ((Bool × (List Int)) × (List Int)) × ((Bool × (List Int)) × (List Int))) => ref03_Mul.f k x.1 x.2⟩), (26, ⟨[(.st (.pair (.st (.pair .bool (.list (.int .u32)))) (.list (.int .u32))))], [.flt], fun (x : ((Bool × (List Int)) × (List Int))) => ref04_Nearest.f k x⟩)]
def fgs : Nat → List (FuncId × FG) := fun _ => []
def fs (k : Nat) : FS := ⟨[.flt, .flt], [.flt, (.int .i64)], fun (x : Nat × Nat) => ref04_Mid.f k x.1 x.2⟩
theorem ok : FnOk Try.prog 38 34 Try.f38.results.toList (Try.f38.body.getD .skip) 2 := ⟨⟨Try.f38, by kernel_rfl, by kernel_rfl, by kernel_rfl, rfl, by kernel_rfl⟩, by kernel_rfl, by decide⟩
theorem c (k : Nat) : Contract Try.prog 38 (fs k) :=
  fn_sound (ps := [.flt, .flt]) (rs := [.flt, (.int .i64)]) (pts := ptL) (fns := fns) (fgs := fgs) (fws := fws) (tys := tyTab) (main := fun k (x : Nat × Nat) => ref04_Mid.f k x.1 x.2) ok mix tyOk ⟨⟨rfl, fun _ => rfl, fun k x => by kernel_rfl⟩, ⟨rfl, fun _ => rfl, fun k x => by kernel_rfl⟩, trivial⟩ (fun k x => by kernel_rfl) (fun k => ⟨⟨math_Float64bits.c k, ref04_IsNaN.c k, ref04_IsInf.c k, ref04_Number.c k, ref03_Add.c k, ref04_power.c k, ref03_Mul.c k, ref04_Nearest.c k, trivial⟩, trivial, trivial⟩) k
end ref04_Mid

namespace law04_ApproxMiddles
def fws : Nat → List (FuncId × FW) := fun _ => []
def ptL : List (Pt (TD [.bool])) := []
def fns : Nat → List (FuncId × FS) := fun k => [(37, ⟨[.flt, .flt], [.flt, (.int .i64)], fun (x : Nat × Nat) => approx_Mid.f k x.1 x.2⟩), (38, ⟨[.flt, .flt], [.flt, (.int .i64)], fun (x : Nat × Nat) => ref04_Mid.f k x.1 x.2⟩), (24, ⟨[.flt, .flt], [.bool], fun (x : Nat × Nat) => law04_same.f k x.1 x.2⟩)]
def fgs : Nat → List (FuncId × FG) := fun _ => []
def fs (k : Nat) : FS := ⟨[.flt, .flt], [.bool], fun (x : Nat × Nat) => law04_ApproxMiddles.f k x.1 x.2⟩
theorem ok : FnOk Try.prog 9 29 Try.f9.results.toList (Try.f9.body.getD .skip) 2 := ⟨⟨Try.f9, by kernel_rfl, by kernel_rfl, by kernel_rfl, rfl, by kernel_rfl⟩, by kernel_rfl, by decide⟩
theorem c (k : Nat) : Contract Try.prog 9 (fs k) :=
  fn_sound (ps := [.flt, .flt]) (rs := [.bool]) (pts := ptL) (fns := fns) (fgs := fgs) (fws := fws) (tys := tyTab) (main := fun k (x : Nat × Nat) => law04_ApproxMiddles.f k x.1 x.2) ok mix tyOk trivial (fun k x => by kernel_rfl) (fun k => ⟨⟨approx_Mid.c k, ref04_Mid.c k, law04_same.c k, trivial⟩, trivial, trivial⟩) k
end law04_ApproxMiddles
end Go.Proofs.Ytaggjlegalmiaaa
