/- Contracts, printed by fgen.py. -/
import Derived.Test.YtfalcbkhleobdaaDoorPlm
import Derived.Test.YtfalcbkhleobdaaDoorProg
namespace Go.Proofs.YtfalcbkhleobdaaDoor
open Go.FK
theorem mix : Tryd.prog.follows .mixedOrders = true ∧ ArrsOk Tryd.prog := ⟨by kernel_rfl, arrsB_ok (by kernel_rfl)⟩
def tyTab : List (TypeId × TI) := [(2, ⟨(.int .i64), 0, 0⟩), (3, ⟨(.int .i64), 0, 0⟩), (4, ⟨.bool, 0, 0⟩), (5, ⟨(.int .u8), 0, 0⟩), (9, ⟨.str, 0, 0⟩), (21, ⟨(.int .i32), 0, 0⟩), (23, ⟨(.list (.int .u32)), 66, 4⟩), (25, ⟨(.st (.pair .bool (.list (.int .u32)))), 0, 0⟩), (27, ⟨(.st (.pair (.st (.pair .bool (.list (.int .u32)))) (.list (.int .u32)))), 0, 0⟩), (29, ⟨(.st (.pair (.st (.pair (.st (.pair .bool (.list (.int .u32)))) (.list (.int .u32)))) (.st (.pair (.st (.pair .bool (.list (.int .u32)))) (.list (.int .u32)))))), 0, 0⟩), (31, ⟨(.int .i64), 0, 0⟩), (66, ⟨(.int .u32), 0, 0⟩), (77, ⟨(.int .u64), 0, 0⟩), (80, ⟨(.int .u64), 0, 0⟩), (101, ⟨(.list (.int .u8)), 5, 1⟩), (111, ⟨(.list (.int .i64)), 3, 8⟩)]
theorem tyOk : tysB Tryd.prog tyTab = true := by kernel_rfl

namespace law05_within
def fws : Nat → List (FuncId × FW) := fun _ => []
def ptL : List (Pt (TD [(.st (.pair (.st (.pair (.st (.pair .bool (.list (.int .u32)))) (.list (.int .u32)))) (.st (.pair (.st (.pair .bool (.list (.int .u32)))) (.list (.int .u32))))))])) := []
def fns : Nat → List (FuncId × FS) := fun _ => []
def fgs : Nat → List (FuncId × FG) := fun _ => []
def fs (k : Nat) : FS := ⟨[(.st (.pair (.st (.pair (.st (.pair .bool (.list (.int .u32)))) (.list (.int .u32)))) (.st (.pair (.st (.pair .bool (.list (.int .u32)))) (.list (.int .u32))))))], [(.st (.pair (.st (.pair (.st (.pair .bool (.list (.int .u32)))) (.list (.int .u32)))) (.st (.pair (.st (.pair .bool (.list (.int .u32)))) (.list (.int .u32))))))], fun (x : (((Bool × (List Int)) × (List Int)) × ((Bool × (List Int)) × (List Int)))) => law05_within.f k x⟩
theorem ok : FnOk Tryd.prog 4 27 Tryd.f4.results.toList (Tryd.f4.body.getD .skip) 1 := ⟨⟨Tryd.f4, by kernel_rfl, by kernel_rfl, by kernel_rfl, rfl, by kernel_rfl⟩, by kernel_rfl, by decide⟩
theorem c (k : Nat) : Contract Tryd.prog 4 (fs k) :=
  fn_sound (ps := [(.st (.pair (.st (.pair (.st (.pair .bool (.list (.int .u32)))) (.list (.int .u32)))) (.st (.pair (.st (.pair .bool (.list (.int .u32)))) (.list (.int .u32))))))]) (rs := [(.st (.pair (.st (.pair (.st (.pair .bool (.list (.int .u32)))) (.list (.int .u32)))) (.st (.pair (.st (.pair .bool (.list (.int .u32)))) (.list (.int .u32))))))]) (pts := ptL) (fns := fns) (fgs := fgs) (fws := fws) (tys := tyTab) (main := fun k (x : (((Bool × (List Int)) × (List Int)) × ((Bool × (List Int)) × (List Int)))) => law05_within.f k x) ok mix tyOk trivial (fun k x => by kernel_rfl) (fun _ => ⟨trivial, trivial, trivial⟩) k
end law05_within

namespace law05_nat
def s0 : PSig := ⟨0, [(66, (.int .u32), false)], [(0, .val (.list (.int .u32))), (3, .own 0), (4, .val (.int .i64))]⟩
def fws : Nat → List (FuncId × FW) := fun _ => []
def ptL : List (Pt (TD [(.list (.int .u32))])) := [⟨0, s0, fun k (x : (List Int) × (List Int) × Int) => law05_nat.p0 k x.1 x.2.1 x.2.2⟩]
def fns : Nat → List (FuncId × FS) := fun _ => []
def fgs : Nat → List (FuncId × FG) := fun _ => []
def fs (k : Nat) : FS := ⟨[(.list (.int .u32))], [(.list (.int .u32))], fun (x : (List Int)) => law05_nat.f k x⟩
theorem ok : FnOk Tryd.prog 40 22 Tryd.f40.results.toList (Tryd.f40.body.getD .skip) 1 := ⟨⟨Tryd.f40, by kernel_rfl, by kernel_rfl, by kernel_rfl, rfl, by kernel_rfl⟩, by kernel_rfl, by decide⟩
theorem c (k : Nat) : Contract Tryd.prog 40 (fs k) :=
  fn_sound (ps := [(.list (.int .u32))]) (rs := [(.list (.int .u32))]) (pts := ptL) (fns := fns) (fgs := fgs) (fws := fws) (tys := tyTab) (main := fun k (x : (List Int)) => law05_nat.f k x) ok mix tyOk ⟨⟨rfl, fun _ => rfl, fun k x => by kernel_rfl⟩, trivial⟩ (fun k x => by kernel_rfl) (fun _ => ⟨trivial, trivial, trivial⟩) k
end law05_nat

namespace law05_rat
def fws : Nat → List (FuncId × FW) := fun _ => []
def ptL : List (Pt (TD [(.st (.pair (.st (.pair .bool (.list (.int .u32)))) (.list (.int .u32))))])) := []
def fns : Nat → List (FuncId × FS) := fun k => [(40, ⟨[(.list (.int .u32))], [(.list (.int .u32))], fun (x : (List Int)) => law05_nat.f k x⟩)]
def fgs : Nat → List (FuncId × FG) := fun _ => []
def fs (k : Nat) : FS := ⟨[(.st (.pair (.st (.pair .bool (.list (.int .u32)))) (.list (.int .u32))))], [(.st (.pair (.st (.pair .bool (.list (.int .u32)))) (.list (.int .u32))))], fun (x : ((Bool × (List Int)) × (List Int))) => law05_rat.f k x⟩
theorem ok : FnOk Tryd.prog 17 15 Tryd.f17.results.toList (Tryd.f17.body.getD .skip) 1 := ⟨⟨Tryd.f17, by kernel_rfl, by kernel_rfl, by kernel_rfl, rfl, by kernel_rfl⟩, by kernel_rfl, by decide⟩
theorem c (k : Nat) : Contract Tryd.prog 17 (fs k) :=
  fn_sound (ps := [(.st (.pair (.st (.pair .bool (.list (.int .u32)))) (.list (.int .u32))))]) (rs := [(.st (.pair (.st (.pair .bool (.list (.int .u32)))) (.list (.int .u32))))]) (pts := ptL) (fns := fns) (fgs := fgs) (fws := fws) (tys := tyTab) (main := fun k (x : ((Bool × (List Int)) × (List Int))) => law05_rat.f k x) ok mix tyOk trivial (fun k x => by kernel_rfl) (fun k => ⟨⟨law05_nat.c k, trivial⟩, trivial, trivial⟩) k
end law05_rat

namespace law05_twin
def fws : Nat → List (FuncId × FW) := fun _ => []
def ptL : List (Pt (TD [(.st (.pair (.st (.pair (.st (.pair .bool (.list (.int .u32)))) (.list (.int .u32)))) (.st (.pair (.st (.pair .bool (.list (.int .u32)))) (.list (.int .u32))))))])) := []
def fns : Nat → List (FuncId × FS) := fun k => [(17, ⟨[(.st (.pair (.st (.pair .bool (.list (.int .u32)))) (.list (.int .u32))))], [(.st (.pair (.st (.pair .bool (.list (.int .u32)))) (.list (.int .u32))))], fun (x : ((Bool × (List Int)) × (List Int))) => law05_rat.f k x⟩)]
def fgs : Nat → List (FuncId × FG) := fun _ => []
def fs (k : Nat) : FS := ⟨[(.st (.pair (.st (.pair (.st (.pair .bool (.list (.int .u32)))) (.list (.int .u32)))) (.st (.pair (.st (.pair .bool (.list (.int .u32)))) (.list (.int .u32))))))], [(.st (.pair (.st (.pair (.st (.pair .bool (.list (.int .u32)))) (.list (.int .u32)))) (.st (.pair (.st (.pair .bool (.list (.int .u32)))) (.list (.int .u32))))))], fun (x : (((Bool × (List Int)) × (List Int)) × ((Bool × (List Int)) × (List Int)))) => law05_twin.f k x⟩
theorem ok : FnOk Tryd.prog 7 10 Tryd.f7.results.toList (Tryd.f7.body.getD .skip) 1 := ⟨⟨Tryd.f7, by kernel_rfl, by kernel_rfl, by kernel_rfl, rfl, by kernel_rfl⟩, by kernel_rfl, by decide⟩
theorem c (k : Nat) : Contract Tryd.prog 7 (fs k) :=
  fn_sound (ps := [(.st (.pair (.st (.pair (.st (.pair .bool (.list (.int .u32)))) (.list (.int .u32)))) (.st (.pair (.st (.pair .bool (.list (.int .u32)))) (.list (.int .u32))))))]) (rs := [(.st (.pair (.st (.pair (.st (.pair .bool (.list (.int .u32)))) (.list (.int .u32)))) (.st (.pair (.st (.pair .bool (.list (.int .u32)))) (.list (.int .u32))))))]) (pts := ptL) (fns := fns) (fgs := fgs) (fws := fws) (tys := tyTab) (main := fun k (x : (((Bool × (List Int)) × (List Int)) × ((Bool × (List Int)) × (List Int)))) => law05_twin.f k x) ok mix tyOk trivial (fun k x => by kernel_rfl) (fun k => ⟨⟨law05_rat.c k, trivial⟩, trivial, trivial⟩) k
end law05_twin

namespace nat_trim
def s0 : PSig := ⟨0, [], [(0, .val (.list (.int .u32))), (3, .val (.int .i64))]⟩
def s9 : PSig := ⟨0, [], [(0, .val (.list (.int .u32))), (3, .val (.int .i64))]⟩
def fws : Nat → List (FuncId × FW) := fun _ => []
def ptL : List (Pt (TD [(.list (.int .u32))])) := [⟨0, s0, fun k (x : (List Int) × Int) => nat_trim.p0 k x.1 x.2⟩, ⟨9, s9, fun k (x : (List Int) × Int) => nat_trim.p9 k x.1 x.2⟩]
def fns : Nat → List (FuncId × FS) := fun _ => []
def fgs : Nat → List (FuncId × FG) := fun _ => []
def fs (k : Nat) : FS := ⟨[(.list (.int .u32))], [(.list (.int .u32))], fun (x : (List Int)) => nat_trim.f k x⟩
theorem ok : FnOk Tryd.prog 64 21 Tryd.f64.results.toList (Tryd.f64.body.getD .skip) 1 := ⟨⟨Tryd.f64, by kernel_rfl, by kernel_rfl, by kernel_rfl, rfl, by kernel_rfl⟩, by kernel_rfl, by decide⟩
theorem c (k : Nat) : Contract Tryd.prog 64 (fs k) :=
  fn_sound (ps := [(.list (.int .u32))]) (rs := [(.list (.int .u32))]) (pts := ptL) (fns := fns) (fgs := fgs) (fws := fws) (tys := tyTab) (main := fun k (x : (List Int)) => nat_trim.f k x) ok mix tyOk ⟨⟨rfl, fun _ => rfl, fun k x => by kernel_rfl⟩, ⟨rfl, fun _ => rfl, fun k x => by kernel_rfl⟩, trivial⟩ (fun k x => by kernel_rfl) (fun _ => ⟨trivial, trivial, trivial⟩) k
end nat_trim

namespace bits_Len32
def s9 : PSig := ⟨0, [], [(0, .val (.int .u32)), (2, .val (.int .i64))]⟩
def s15 : PSig := ⟨0, [], [(0, .val (.int .u32)), (2, .val (.int .i64))]⟩
def fws : Nat → List (FuncId × FW) := fun _ => []
def ptL : List (Pt (TD [(.int .i64)])) := [⟨9, s9, fun k (x : Int × Int) => bits_Len32.p9 k x.1 x.2⟩, ⟨15, s15, fun k (x : Int × Int) => bits_Len32.p15 k x.1 x.2⟩]
def fns : Nat → List (FuncId × FS) := fun _ => []
def fgs : Nat → List (FuncId × FG) := fun _ => []
def fs (k : Nat) : FS := ⟨[(.int .u32)], [(.int .i64)], fun (x : Int) => bits_Len32.f k x⟩
theorem ok : FnOk Tryd.prog 74 19 Tryd.f74.results.toList (Tryd.f74.body.getD .skip) 1 := ⟨⟨Tryd.f74, by kernel_rfl, by kernel_rfl, by kernel_rfl, rfl, by kernel_rfl⟩, by kernel_rfl, by decide⟩
theorem c (k : Nat) : Contract Tryd.prog 74 (fs k) :=
  fn_sound (ps := [(.int .u32)]) (rs := [(.int .i64)]) (pts := ptL) (fns := fns) (fgs := fgs) (fws := fws) (tys := tyTab) (main := fun k (x : Int) => bits_Len32.f k x) ok mix tyOk ⟨⟨rfl, fun _ => rfl, fun k x => by kernel_rfl⟩, ⟨rfl, fun _ => rfl, fun k x => by kernel_rfl⟩, trivial⟩ (fun k x => by kernel_rfl) (fun _ => ⟨trivial, trivial, trivial⟩) k
end bits_Len32

namespace nat_Bits
def fws : Nat → List (FuncId × FW) := fun _ => []
def ptL : List (Pt (TD [(.int .i64)])) := []
def fns : Nat → List (FuncId × FS) := fun k => [(64, ⟨[(.list (.int .u32))], [(.list (.int .u32))], fun (x : (List Int)) => nat_trim.f k x⟩), (74, ⟨[(.int .u32)], [(.int .i64)], fun (x : Int) => bits_Len32.f k x⟩)]
def fgs : Nat → List (FuncId × FG) := fun _ => []
def fs (k : Nat) : FS := ⟨[(.list (.int .u32))], [(.int .i64)], fun (x : (List Int)) => nat_Bits.f k x⟩
theorem ok : FnOk Tryd.prog 44 20 Tryd.f44.results.toList (Tryd.f44.body.getD .skip) 1 := ⟨⟨Tryd.f44, by kernel_rfl, by kernel_rfl, by kernel_rfl, rfl, by kernel_rfl⟩, by kernel_rfl, by decide⟩
theorem c (k : Nat) : Contract Tryd.prog 44 (fs k) :=
  fn_sound (ps := [(.list (.int .u32))]) (rs := [(.int .i64)]) (pts := ptL) (fns := fns) (fgs := fgs) (fws := fws) (tys := tyTab) (main := fun k (x : (List Int)) => nat_Bits.f k x) ok mix tyOk trivial (fun k x => by kernel_rfl) (fun k => ⟨⟨nat_trim.c k, bits_Len32.c k, trivial⟩, trivial, trivial⟩) k
end nat_Bits

namespace nat_own
def fws : Nat → List (FuncId × FW) := fun _ => []
def ptL : List (Pt (TD [(.list (.int .u32))])) := []
def fns : Nat → List (FuncId × FS) := fun k => [(64, ⟨[(.list (.int .u32))], [(.list (.int .u32))], fun (x : (List Int)) => nat_trim.f k x⟩)]
def fgs : Nat → List (FuncId × FG) := fun _ => []
def fs (k : Nat) : FS := ⟨[(.list (.int .u32))], [(.list (.int .u32))], fun (x : (List Int)) => nat_own.f k x⟩
theorem ok : FnOk Tryd.prog 55 16 Tryd.f55.results.toList (Tryd.f55.body.getD .skip) 1 := ⟨⟨Tryd.f55, by kernel_rfl, by kernel_rfl, by kernel_rfl, rfl, by kernel_rfl⟩, by kernel_rfl, by decide⟩
theorem c (k : Nat) : Contract Tryd.prog 55 (fs k) :=
  fn_sound (ps := [(.list (.int .u32))]) (rs := [(.list (.int .u32))]) (pts := ptL) (fns := fns) (fgs := fgs) (fws := fws) (tys := tyTab) (main := fun k (x : (List Int)) => nat_own.f k x) ok mix tyOk trivial (fun k x => by kernel_rfl) (fun k => ⟨⟨nat_trim.c k, trivial⟩, trivial, trivial⟩) k
def fw (k : Nat) : FW := ⟨[(.list (.int .u32))], 66, (.int .u32), false, fun (x : (List Int)) => nat_own.f k x⟩
def ptW : List (Pt (List (Ty.D (.int .u32)))) := []
theorem cw (k : Nat) : ContractW Tryd.prog 55 (fw k) :=
  fn_soundW (ps := [(.list (.int .u32))]) (e := 66) (t := (.int .u32)) (bx := false) (pts := ptW) (fns := fns) (fgs := fgs) (fws := fws) (tys := tyTab) (main := fun k (x : (List Int)) => nat_own.f k x) ok mix tyOk trivial (fun k x => by kernel_rfl) (fun k => ⟨⟨nat_trim.c k, trivial⟩, trivial, trivial⟩) k
end nat_own

namespace nat_Cmp
def s0 : PSig := ⟨0, [], [(0, .val (.list (.int .u32))), (1, .val (.list (.int .u32))), (5, .val (.int .i64))]⟩
def fws : Nat → List (FuncId × FW) := fun _ => []
def ptL : List (Pt (TD [(.int .i64)])) := [⟨0, s0, fun k (x : (List Int) × (List Int) × Int) => nat_Cmp.p0 k x.1 x.2.1 x.2.2⟩]
def fns : Nat → List (FuncId × FS) := fun k => [(64, ⟨[(.list (.int .u32))], [(.list (.int .u32))], fun (x : (List Int)) => nat_trim.f k x⟩)]
def fgs : Nat → List (FuncId × FG) := fun _ => []
def fs (k : Nat) : FS := ⟨[(.list (.int .u32)), (.list (.int .u32))], [(.int .i64)], fun (x : (List Int) × (List Int)) => nat_Cmp.f k x.1 x.2⟩
theorem ok : FnOk Tryd.prog 37 45 Tryd.f37.results.toList (Tryd.f37.body.getD .skip) 2 := ⟨⟨Tryd.f37, by kernel_rfl, by kernel_rfl, by kernel_rfl, rfl, by kernel_rfl⟩, by kernel_rfl, by decide⟩
theorem c (k : Nat) : Contract Tryd.prog 37 (fs k) :=
  fn_sound (ps := [(.list (.int .u32)), (.list (.int .u32))]) (rs := [(.int .i64)]) (pts := ptL) (fns := fns) (fgs := fgs) (fws := fws) (tys := tyTab) (main := fun k (x : (List Int) × (List Int)) => nat_Cmp.f k x.1 x.2) ok mix tyOk ⟨⟨rfl, fun _ => rfl, fun k x => by kernel_rfl⟩, trivial⟩ (fun k x => by kernel_rfl) (fun k => ⟨⟨nat_trim.c k, trivial⟩, trivial, trivial⟩) k
end nat_Cmp

namespace bits_Div32
def s7 : PSig := ⟨0, [], [(0, .val (.int .u32)), (1, .val (.int .u32)), (2, .val (.int .u32))]⟩
def fws : Nat → List (FuncId × FW) := fun _ => []
def ptL : List (Pt (TD [(.int .u32), (.int .u32)])) := [⟨7, s7, fun k (x : Int × Int × Int) => bits_Div32.p7 k x.1 x.2.1 x.2.2⟩]
def fns : Nat → List (FuncId × FS) := fun _ => []
def fgs : Nat → List (FuncId × FG) := fun _ => []
def fs (k : Nat) : FS := ⟨[(.int .u32), (.int .u32), (.int .u32)], [(.int .u32), (.int .u32)], fun (x : Int × Int × Int) => bits_Div32.f k x.1 x.2.1 x.2.2⟩
theorem ok : FnOk Tryd.prog 89 33 Tryd.f89.results.toList (Tryd.f89.body.getD .skip) 3 := ⟨⟨Tryd.f89, by kernel_rfl, by kernel_rfl, by kernel_rfl, rfl, by kernel_rfl⟩, by kernel_rfl, by decide⟩
theorem c (k : Nat) : Contract Tryd.prog 89 (fs k) :=
  fn_sound (ps := [(.int .u32), (.int .u32), (.int .u32)]) (rs := [(.int .u32), (.int .u32)]) (pts := ptL) (fns := fns) (fgs := fgs) (fws := fws) (tys := tyTab) (main := fun k (x : Int × Int × Int) => bits_Div32.f k x.1 x.2.1 x.2.2) ok mix tyOk ⟨⟨rfl, fun _ => rfl, fun k x => by kernel_rfl⟩, trivial⟩ (fun k x => by kernel_rfl) (fun _ => ⟨trivial, trivial, trivial⟩) k
end bits_Div32

namespace nat_short
def s0 : PSig := ⟨0, [(66, (.int .u32), false)], [(0, .val (.list (.int .u32))), (1, .val (.int .u32)), (6, .own 0), (7, .val (.int .u32)), (8, .val (.int .i64))]⟩
def fws : Nat → List (FuncId × FW) := fun _ => []
def ptL : List (Pt (TD [(.list (.int .u32)), (.int .u32)])) := [⟨0, s0, fun k (x : (List Int) × (List Int) × Int × Int × Int) => nat_short.p0 k x.1 x.2.1 x.2.2.1 x.2.2.2.1 x.2.2.2.2⟩]
def fns : Nat → List (FuncId × FS) := fun k => [(89, ⟨[(.int .u32), (.int .u32), (.int .u32)], [(.int .u32), (.int .u32)], fun (x : Int × Int × Int) => bits_Div32.f k x.1 x.2.1 x.2.2⟩)]
def fgs : Nat → List (FuncId × FG) := fun _ => []
def fs (k : Nat) : FS := ⟨[(.list (.int .u32)), (.int .u32)], [(.list (.int .u32)), (.int .u32)], fun (x : (List Int) × Int) => nat_short.f k x.1 x.2⟩
theorem ok : FnOk Tryd.prog 78 34 Tryd.f78.results.toList (Tryd.f78.body.getD .skip) 2 := ⟨⟨Tryd.f78, by kernel_rfl, by kernel_rfl, by kernel_rfl, rfl, by kernel_rfl⟩, by kernel_rfl, by decide⟩
theorem c (k : Nat) : Contract Tryd.prog 78 (fs k) :=
  fn_sound (ps := [(.list (.int .u32)), (.int .u32)]) (rs := [(.list (.int .u32)), (.int .u32)]) (pts := ptL) (fns := fns) (fgs := fgs) (fws := fws) (tys := tyTab) (main := fun k (x : (List Int) × Int) => nat_short.f k x.1 x.2) ok mix tyOk ⟨⟨rfl, fun _ => rfl, fun k x => by kernel_rfl⟩, trivial⟩ (fun k x => by kernel_rfl) (fun k => ⟨⟨bits_Div32.c k, trivial⟩, trivial, trivial⟩) k
end nat_short

namespace bits_LeadingZeros32
def fws : Nat → List (FuncId × FW) := fun _ => []
def ptL : List (Pt (TD [(.int .i64)])) := []
def fns : Nat → List (FuncId × FS) := fun k => [(74, ⟨[(.int .u32)], [(.int .i64)], fun (x : Int) => bits_Len32.f k x⟩)]
def fgs : Nat → List (FuncId × FG) := fun _ => []
def fs (k : Nat) : FS := ⟨[(.int .u32)], [(.int .i64)], fun (x : Int) => bits_LeadingZeros32.f k x⟩
theorem ok : FnOk Tryd.prog 90 6 Tryd.f90.results.toList (Tryd.f90.body.getD .skip) 1 := ⟨⟨Tryd.f90, by kernel_rfl, by kernel_rfl, by kernel_rfl, rfl, by kernel_rfl⟩, by kernel_rfl, by decide⟩
theorem c (k : Nat) : Contract Tryd.prog 90 (fs k) :=
  fn_sound (ps := [(.int .u32)]) (rs := [(.int .i64)]) (pts := ptL) (fns := fns) (fgs := fgs) (fws := fws) (tys := tyTab) (main := fun k (x : Int) => bits_LeadingZeros32.f k x) ok mix tyOk trivial (fun k x => by kernel_rfl) (fun k => ⟨⟨bits_Len32.c k, trivial⟩, trivial, trivial⟩) k
end bits_LeadingZeros32

namespace nat_moved
def s0 : PSig := ⟨0, [(66, (.int .u32), false)], [(0, .val (.list (.int .u32))), (1, .val (.int .i64)), (5, .own 0), (12, .val (.int .i64)), (13, .val (.int .i64))]⟩
def fws : Nat → List (FuncId × FW) := fun _ => []
def ptL : List (Pt (TD [(.list (.int .u32))])) := [⟨0, s0, fun k (x : (List Int) × (List Int) × Int × Int × Int) => nat_moved.p0 k x.1 x.2.1 x.2.2.1 x.2.2.2.1 x.2.2.2.2⟩]
def fns : Nat → List (FuncId × FS) := fun _ => []
def fgs : Nat → List (FuncId × FG) := fun _ => []
def fs (k : Nat) : FS := ⟨[(.list (.int .u32)), (.int .i64)], [(.list (.int .u32))], fun (x : (List Int) × Int) => nat_moved.f k x.1 x.2⟩
theorem ok : FnOk Tryd.prog 91 43 Tryd.f91.results.toList (Tryd.f91.body.getD .skip) 2 := ⟨⟨Tryd.f91, by kernel_rfl, by kernel_rfl, by kernel_rfl, rfl, by kernel_rfl⟩, by kernel_rfl, by decide⟩
theorem c (k : Nat) : Contract Tryd.prog 91 (fs k) :=
  fn_sound (ps := [(.list (.int .u32)), (.int .i64)]) (rs := [(.list (.int .u32))]) (pts := ptL) (fns := fns) (fgs := fgs) (fws := fws) (tys := tyTab) (main := fun k (x : (List Int) × Int) => nat_moved.f k x.1 x.2) ok mix tyOk ⟨⟨rfl, fun _ => rfl, fun k x => by kernel_rfl⟩, trivial⟩ (fun k x => by kernel_rfl) (fun _ => ⟨trivial, trivial, trivial⟩) k
def fw (k : Nat) : FW := ⟨[(.list (.int .u32)), (.int .i64)], 66, (.int .u32), false, fun (x : (List Int) × Int) => nat_moved.f k x.1 x.2⟩
def ptW : List (Pt (List (Ty.D (.int .u32)))) := [⟨0, s0, fun k (x : (List Int) × (List Int) × Int × Int × Int) => nat_moved.p0 k x.1 x.2.1 x.2.2.1 x.2.2.2.1 x.2.2.2.2⟩]
theorem cw (k : Nat) : ContractW Tryd.prog 91 (fw k) :=
  fn_soundW (ps := [(.list (.int .u32)), (.int .i64)]) (e := 66) (t := (.int .u32)) (bx := false) (pts := ptW) (fns := fns) (fgs := fgs) (fws := fws) (tys := tyTab) (main := fun k (x : (List Int) × Int) => nat_moved.f k x.1 x.2) ok mix tyOk ⟨⟨rfl, fun _ => rfl, fun k x => by kernel_rfl⟩, trivial⟩ (fun k x => by kernel_rfl) (fun _ => ⟨trivial, trivial, trivial⟩) k
end nat_moved

namespace bits_Sub32
def fws : Nat → List (FuncId × FW) := fun _ => []
def ptL : List (Pt (TD [(.int .u32), (.int .u32)])) := []
def fns : Nat → List (FuncId × FS) := fun _ => []
def fgs : Nat → List (FuncId × FG) := fun _ => []
def fs (k : Nat) : FS := ⟨[(.int .u32), (.int .u32), (.int .u32)], [(.int .u32), (.int .u32)], fun (x : Int × Int × Int) => bits_Sub32.f k x.1 x.2.1 x.2.2⟩
theorem ok : FnOk Tryd.prog 96 25 Tryd.f96.results.toList (Tryd.f96.body.getD .skip) 3 := ⟨⟨Tryd.f96, by kernel_rfl, by kernel_rfl, by kernel_rfl, rfl, by kernel_rfl⟩, by kernel_rfl, by decide⟩
theorem c (k : Nat) : Contract Tryd.prog 96 (fs k) :=
  fn_sound (ps := [(.int .u32), (.int .u32), (.int .u32)]) (rs := [(.int .u32), (.int .u32)]) (pts := ptL) (fns := fns) (fgs := fgs) (fws := fws) (tys := tyTab) (main := fun k (x : Int × Int × Int) => bits_Sub32.f k x.1 x.2.1 x.2.2) ok mix tyOk trivial (fun k x => by kernel_rfl) (fun _ => ⟨trivial, trivial, trivial⟩) k
end bits_Sub32

namespace bits_Add32
def fws : Nat → List (FuncId × FW) := fun _ => []
def ptL : List (Pt (TD [(.int .u32), (.int .u32)])) := []
def fns : Nat → List (FuncId × FS) := fun _ => []
def fgs : Nat → List (FuncId × FG) := fun _ => []
def fs (k : Nat) : FS := ⟨[(.int .u32), (.int .u32), (.int .u32)], [(.int .u32), (.int .u32)], fun (x : Int × Int × Int) => bits_Add32.f k x.1 x.2.1 x.2.2⟩
theorem ok : FnOk Tryd.prog 63 22 Tryd.f63.results.toList (Tryd.f63.body.getD .skip) 3 := ⟨⟨Tryd.f63, by kernel_rfl, by kernel_rfl, by kernel_rfl, rfl, by kernel_rfl⟩, by kernel_rfl, by decide⟩
theorem c (k : Nat) : Contract Tryd.prog 63 (fs k) :=
  fn_sound (ps := [(.int .u32), (.int .u32), (.int .u32)]) (rs := [(.int .u32), (.int .u32)]) (pts := ptL) (fns := fns) (fgs := fgs) (fws := fws) (tys := tyTab) (main := fun k (x : Int × Int × Int) => bits_Add32.f k x.1 x.2.1 x.2.2) ok mix tyOk trivial (fun k x => by kernel_rfl) (fun _ => ⟨trivial, trivial, trivial⟩) k
end bits_Add32

namespace nat_digit
def s0 : PSig := ⟨1, [(66, (.int .u32), false)], [(0, .win 0), (1, .val (.list (.int .u32))), (5, .val (.int .i64)), (7, .val (.int .u64)), (8, .val (.int .u64))]⟩
def s11 : PSig := ⟨1, [(66, (.int .u32), false)], [(0, .win 0), (1, .val (.list (.int .u32))), (5, .val (.int .i64)), (7, .val (.int .u64)), (8, .val (.int .u64))]⟩
def s4 : PSig := ⟨1, [(66, (.int .u32), false)], [(0, .win 0), (1, .val (.list (.int .u32))), (5, .val (.int .i64)), (7, .val (.int .u64)), (9, .val (.int .u32)), (10, .val (.int .u64)), (82, .val (.int .i64)), (83, .val (.int .i64))]⟩
def s8 : PSig := ⟨1, [(66, (.int .u32), false)], [(0, .win 0), (1, .val (.list (.int .u32))), (5, .val (.int .i64)), (7, .val (.int .u64)), (13, .val (.int .u32)), (130, .val (.int .i64)), (131, .val (.int .i64))]⟩
def fws : Nat → List (FuncId × FW) := fun _ => []
def ptL : List (Pt (TD ([.win 66 (.int .u32), .val (.list (.int .u32))].flatMap PK.outs ++ [(.int .u32)]))) := [⟨0, s0, fun k (x : (List Int) × Nat × Nat × (List Int) × Int × Int × Int) => nat_digit.p0 k x.1 x.2.1 x.2.2.1 x.2.2.2.1 x.2.2.2.2.1 x.2.2.2.2.2.1 x.2.2.2.2.2.2⟩, ⟨11, s11, fun k (x : (List Int) × Nat × Nat × (List Int) × Int × Int × Int) => nat_digit.p11 k x.1 x.2.1 x.2.2.1 x.2.2.2.1 x.2.2.2.2.1 x.2.2.2.2.2.1 x.2.2.2.2.2.2⟩, ⟨4, s4, fun k (x : (List Int) × Nat × Nat × (List Int) × Int × Int × Int × Int × Int × Int) => nat_digit.p4 k x.1 x.2.1 x.2.2.1 x.2.2.2.1 x.2.2.2.2.1 x.2.2.2.2.2.1 x.2.2.2.2.2.2.1 x.2.2.2.2.2.2.2.1 x.2.2.2.2.2.2.2.2.1 x.2.2.2.2.2.2.2.2.2⟩, ⟨8, s8, fun k (x : (List Int) × Nat × Nat × (List Int) × Int × Int × Int × Int × Int) => nat_digit.p8 k x.1 x.2.1 x.2.2.1 x.2.2.2.1 x.2.2.2.2.1 x.2.2.2.2.2.1 x.2.2.2.2.2.2.1 x.2.2.2.2.2.2.2.1 x.2.2.2.2.2.2.2.2⟩]
def fns : Nat → List (FuncId × FS) := fun k => [(96, ⟨[(.int .u32), (.int .u32), (.int .u32)], [(.int .u32), (.int .u32)], fun (x : Int × Int × Int) => bits_Sub32.f k x.1 x.2.1 x.2.2⟩), (63, ⟨[(.int .u32), (.int .u32), (.int .u32)], [(.int .u32), (.int .u32)], fun (x : Int × Int × Int) => bits_Add32.f k x.1 x.2.1 x.2.2⟩)]
def fgs : Nat → List (FuncId × FG) := fun _ => []
def fg (k : Nat) : FG := ⟨[.win 66 (.int .u32), .val (.list (.int .u32))], [(.int .u32)], fun (x : (List Int) × Nat × Nat × (List Int)) => nat_digit.f k x.1 x.2.1 x.2.2.1 x.2.2.2⟩
theorem ok : FnOk Tryd.prog 92 160 Tryd.f92.results.toList (Tryd.f92.body.getD .skip) 2 := ⟨⟨Tryd.f92, by kernel_rfl, by kernel_rfl, by kernel_rfl, rfl, by kernel_rfl⟩, by kernel_rfl, by decide⟩
theorem c (k : Nat) : ContractG Tryd.prog 92 (fg k) :=
  fn_soundG (ps := [.win 66 (.int .u32), .val (.list (.int .u32))]) (rs := [(.int .u32)]) (pts := ptL) (fns := fns) (fgs := fgs) (fws := fws) (tys := tyTab) (main := fun k (x : (List Int) × Nat × Nat × (List Int)) => nat_digit.f k x.1 x.2.1 x.2.2.1 x.2.2.2) ok rfl mix tyOk ⟨⟨rfl, fun _ => rfl, fun k x => by kernel_rfl⟩, ⟨rfl, fun _ => rfl, fun k x => by kernel_rfl⟩, ⟨rfl, fun _ => rfl, fun k x => by kernel_rfl⟩, ⟨rfl, fun _ => rfl, fun k x => by kernel_rfl⟩, trivial⟩ (fun k x => by kernel_rfl) (fun k => ⟨⟨bits_Sub32.c k, bits_Add32.c k, trivial⟩, trivial, trivial⟩) k
end nat_digit

namespace nat_long
def s0 : PSig := ⟨0, [(66, (.int .u32), false), (66, (.int .u32), false)], [(6, .val (.int .i64)), (7, .val (.list (.int .u32))), (8, .own 0), (9, .val (.int .i64)), (10, .own 1), (11, .val (.int .i64))]⟩
def s4 : PSig := ⟨0, [(66, (.int .u32), false), (66, (.int .u32), false), (66, (.int .u32), false)], [(6, .val (.int .i64)), (8, .own 0), (10, .own 1), (12, .own 2), (60, .val (.int .i64)), (61, .val (.int .i64))]⟩
def fws : Nat → List (FuncId × FW) := fun k => [(91, ⟨[(.list (.int .u32)), (.int .i64)], 66, (.int .u32), false, fun (x : (List Int) × Int) => nat_moved.f k x.1 x.2⟩), (55, ⟨[(.list (.int .u32))], 66, (.int .u32), false, fun (x : (List Int)) => nat_own.f k x⟩)]
def ptL : List (Pt (TD [(.list (.int .u32)), (.list (.int .u32))])) := [⟨0, s0, fun k (x : (List Int) × (List Int) × Int × (List Int) × Int × Int) => nat_long.p0 k x.1 x.2.1 x.2.2.1 x.2.2.2.1 x.2.2.2.2.1 x.2.2.2.2.2⟩, ⟨4, s4, fun k (x : (List Int) × (List Int) × (List Int) × Int × Int × Int) => nat_long.p4 k x.1 x.2.1 x.2.2.1 x.2.2.2.1 x.2.2.2.2.1 x.2.2.2.2.2⟩]
def fns : Nat → List (FuncId × FS) := fun k => [(90, ⟨[(.int .u32)], [(.int .i64)], fun (x : Int) => bits_LeadingZeros32.f k x⟩)]
def fgs : Nat → List (FuncId × FG) := fun k => [(92, ⟨[.win 66 (.int .u32), .val (.list (.int .u32))], [(.int .u32)], fun (x : (List Int) × Nat × Nat × (List Int)) => nat_digit.f k x.1 x.2.1 x.2.2.1 x.2.2.2⟩)]
def fs (k : Nat) : FS := ⟨[(.list (.int .u32)), (.list (.int .u32))], [(.list (.int .u32)), (.list (.int .u32))], fun (x : (List Int) × (List Int)) => nat_long.f k x.1 x.2⟩
theorem ok : FnOk Tryd.prog 79 89 Tryd.f79.results.toList (Tryd.f79.body.getD .skip) 2 := ⟨⟨Tryd.f79, by kernel_rfl, by kernel_rfl, by kernel_rfl, rfl, by kernel_rfl⟩, by kernel_rfl, by decide⟩
theorem c (k : Nat) : Contract Tryd.prog 79 (fs k) :=
  fn_sound (ps := [(.list (.int .u32)), (.list (.int .u32))]) (rs := [(.list (.int .u32)), (.list (.int .u32))]) (pts := ptL) (fns := fns) (fgs := fgs) (fws := fws) (tys := tyTab) (main := fun k (x : (List Int) × (List Int)) => nat_long.f k x.1 x.2) ok mix tyOk ⟨⟨rfl, fun _ => rfl, fun k x => by kernel_rfl⟩, ⟨rfl, fun _ => rfl, fun k x => by kernel_rfl⟩, trivial⟩ (fun k x => by kernel_rfl) (fun k => ⟨⟨bits_LeadingZeros32.c k, trivial⟩, ⟨nat_digit.c k, trivial⟩, ⟨nat_moved.cw k, nat_own.cw k, trivial⟩⟩) k
end nat_long

namespace nat_Div
def fws : Nat → List (FuncId × FW) := fun _ => []
def ptL : List (Pt (TD [(.list (.int .u32)), (.list (.int .u32)), (.int .i64)])) := []
def fns : Nat → List (FuncId × FS) := fun k => [(64, ⟨[(.list (.int .u32))], [(.list (.int .u32))], fun (x : (List Int)) => nat_trim.f k x⟩), (37, ⟨[(.list (.int .u32)), (.list (.int .u32))], [(.int .i64)], fun (x : (List Int) × (List Int)) => nat_Cmp.f k x.1 x.2⟩), (55, ⟨[(.list (.int .u32))], [(.list (.int .u32))], fun (x : (List Int)) => nat_own.f k x⟩), (78, ⟨[(.list (.int .u32)), (.int .u32)], [(.list (.int .u32)), (.int .u32)], fun (x : (List Int) × Int) => nat_short.f k x.1 x.2⟩), (79, ⟨[(.list (.int .u32)), (.list (.int .u32))], [(.list (.int .u32)), (.list (.int .u32))], fun (x : (List Int) × (List Int)) => nat_long.f k x.1 x.2⟩)]
def fgs : Nat → List (FuncId × FG) := fun _ => []
def fs (k : Nat) : FS := ⟨[(.list (.int .u32)), (.list (.int .u32))], [(.list (.int .u32)), (.list (.int .u32)), (.int .i64)], fun (x : (List Int) × (List Int)) => nat_Div.f k x.1 x.2⟩
theorem ok : FnOk Tryd.prog 57 51 Tryd.f57.results.toList (Tryd.f57.body.getD .skip) 2 := ⟨⟨Tryd.f57, by kernel_rfl, by kernel_rfl, by kernel_rfl, rfl, by kernel_rfl⟩, by kernel_rfl, by decide⟩
theorem c (k : Nat) : Contract Tryd.prog 57 (fs k) :=
  fn_sound (ps := [(.list (.int .u32)), (.list (.int .u32))]) (rs := [(.list (.int .u32)), (.list (.int .u32)), (.int .i64)]) (pts := ptL) (fns := fns) (fgs := fgs) (fws := fws) (tys := tyTab) (main := fun k (x : (List Int) × (List Int)) => nat_Div.f k x.1 x.2) ok mix tyOk trivial (fun k x => by kernel_rfl) (fun k => ⟨⟨nat_trim.c k, nat_Cmp.c k, nat_own.c k, nat_short.c k, nat_long.c k, trivial⟩, trivial, trivial⟩) k
end nat_Div

namespace nat_Gcd
def s0 : PSig := ⟨0, [], [(0, .val (.list (.int .u32))), (1, .val (.list (.int .u32)))]⟩
def fws : Nat → List (FuncId × FW) := fun _ => []
def ptL : List (Pt (TD [(.list (.int .u32))])) := [⟨0, s0, fun k (x : (List Int) × (List Int)) => nat_Gcd.p0 k x.1 x.2⟩]
def fns : Nat → List (FuncId × FS) := fun k => [(55, ⟨[(.list (.int .u32))], [(.list (.int .u32))], fun (x : (List Int)) => nat_own.f k x⟩), (57, ⟨[(.list (.int .u32)), (.list (.int .u32))], [(.list (.int .u32)), (.list (.int .u32)), (.int .i64)], fun (x : (List Int) × (List Int)) => nat_Div.f k x.1 x.2⟩)]
def fgs : Nat → List (FuncId × FG) := fun _ => []
def fs (k : Nat) : FS := ⟨[(.list (.int .u32)), (.list (.int .u32))], [(.list (.int .u32))], fun (x : (List Int) × (List Int)) => nat_Gcd.f k x.1 x.2⟩
theorem ok : FnOk Tryd.prog 56 25 Tryd.f56.results.toList (Tryd.f56.body.getD .skip) 2 := ⟨⟨Tryd.f56, by kernel_rfl, by kernel_rfl, by kernel_rfl, rfl, by kernel_rfl⟩, by kernel_rfl, by decide⟩
theorem c (k : Nat) : Contract Tryd.prog 56 (fs k) :=
  fn_sound (ps := [(.list (.int .u32)), (.list (.int .u32))]) (rs := [(.list (.int .u32))]) (pts := ptL) (fns := fns) (fgs := fgs) (fws := fws) (tys := tyTab) (main := fun k (x : (List Int) × (List Int)) => nat_Gcd.f k x.1 x.2) ok mix tyOk ⟨⟨rfl, fun _ => rfl, fun k x => by kernel_rfl⟩, trivial⟩ (fun k x => by kernel_rfl) (fun k => ⟨⟨nat_own.c k, nat_Div.c k, trivial⟩, trivial, trivial⟩) k
end nat_Gcd

namespace whole_core
def s0 : PSig := ⟨0, [], [(0, .val (.list (.int .u32))), (3, .val (.int .i64))]⟩
def s9 : PSig := ⟨0, [], [(0, .val (.list (.int .u32))), (3, .val (.int .i64))]⟩
def fws : Nat → List (FuncId × FW) := fun _ => []
def ptL : List (Pt (TD [(.list (.int .u32))])) := [⟨0, s0, fun k (x : (List Int) × Int) => whole_core.p0 k x.1 x.2⟩, ⟨9, s9, fun k (x : (List Int) × Int) => whole_core.p9 k x.1 x.2⟩]
def fns : Nat → List (FuncId × FS) := fun _ => []
def fgs : Nat → List (FuncId × FG) := fun _ => []
def fs (k : Nat) : FS := ⟨[(.list (.int .u32))], [(.list (.int .u32))], fun (x : (List Int)) => whole_core.f k x⟩
theorem ok : FnOk Tryd.prog 66 22 Tryd.f66.results.toList (Tryd.f66.body.getD .skip) 1 := ⟨⟨Tryd.f66, by kernel_rfl, by kernel_rfl, by kernel_rfl, rfl, by kernel_rfl⟩, by kernel_rfl, by decide⟩
theorem c (k : Nat) : Contract Tryd.prog 66 (fs k) :=
  fn_sound (ps := [(.list (.int .u32))]) (rs := [(.list (.int .u32))]) (pts := ptL) (fns := fns) (fgs := fgs) (fws := fws) (tys := tyTab) (main := fun k (x : (List Int)) => whole_core.f k x) ok mix tyOk ⟨⟨rfl, fun _ => rfl, fun k x => by kernel_rfl⟩, ⟨rfl, fun _ => rfl, fun k x => by kernel_rfl⟩, trivial⟩ (fun k x => by kernel_rfl) (fun _ => ⟨trivial, trivial, trivial⟩) k
end whole_core

namespace whole_Sign
def fws : Nat → List (FuncId × FW) := fun _ => []
def ptL : List (Pt (TD [(.int .i64)])) := []
def fns : Nat → List (FuncId × FS) := fun k => [(66, ⟨[(.list (.int .u32))], [(.list (.int .u32))], fun (x : (List Int)) => whole_core.f k x⟩)]
def fgs : Nat → List (FuncId × FG) := fun _ => []
def fs (k : Nat) : FS := ⟨[(.st (.pair .bool (.list (.int .u32))))], [(.int .i64)], fun (x : (Bool × (List Int))) => whole_Sign.f k x⟩
theorem ok : FnOk Tryd.prog 39 12 Tryd.f39.results.toList (Tryd.f39.body.getD .skip) 1 := ⟨⟨Tryd.f39, by kernel_rfl, by kernel_rfl, by kernel_rfl, rfl, by kernel_rfl⟩, by kernel_rfl, by decide⟩
theorem c (k : Nat) : Contract Tryd.prog 39 (fs k) :=
  fn_sound (ps := [(.st (.pair .bool (.list (.int .u32))))]) (rs := [(.int .i64)]) (pts := ptL) (fns := fns) (fgs := fgs) (fws := fws) (tys := tyTab) (main := fun k (x : (Bool × (List Int))) => whole_Sign.f k x) ok mix tyOk trivial (fun k x => by kernel_rfl) (fun k => ⟨⟨whole_core.c k, trivial⟩, trivial, trivial⟩) k
end whole_Sign

namespace nat_Norm
def fws : Nat → List (FuncId × FW) := fun _ => []
def ptL : List (Pt (TD [(.list (.int .u32))])) := []
def fns : Nat → List (FuncId × FS) := fun k => [(55, ⟨[(.list (.int .u32))], [(.list (.int .u32))], fun (x : (List Int)) => nat_own.f k x⟩)]
def fgs : Nat → List (FuncId × FG) := fun _ => []
def fs (k : Nat) : FS := ⟨[(.list (.int .u32))], [(.list (.int .u32))], fun (x : (List Int)) => nat_Norm.f k x⟩
theorem ok : FnOk Tryd.prog 93 5 Tryd.f93.results.toList (Tryd.f93.body.getD .skip) 1 := ⟨⟨Tryd.f93, by kernel_rfl, by kernel_rfl, by kernel_rfl, rfl, by kernel_rfl⟩, by kernel_rfl, by decide⟩
theorem c (k : Nat) : Contract Tryd.prog 93 (fs k) :=
  fn_sound (ps := [(.list (.int .u32))]) (rs := [(.list (.int .u32))]) (pts := ptL) (fns := fns) (fgs := fgs) (fws := fws) (tys := tyTab) (main := fun k (x : (List Int)) => nat_Norm.f k x) ok mix tyOk trivial (fun k x => by kernel_rfl) (fun k => ⟨⟨nat_own.c k, trivial⟩, trivial, trivial⟩) k
end nat_Norm

namespace whole_signed
def s0 : PSig := ⟨0, [(25, (.st (.pair .bool (.list (.int .u32)))), true)], [(0, .val (.list (.int .u32))), (4, .ptr 0 []), (5, .val (.int .i64)), (10, .val (.list (.int .i64))), (11, .val (.int .i64)), (12, .val (.int .i64))]⟩
def fws : Nat → List (FuncId × FW) := fun _ => []
def ptL : List (Pt (TD [(.st (.pair .bool (.list (.int .u32))))])) := [⟨0, s0, fun k (x : (Bool × (List Int)) × (List Int) × Int × (List Int) × Int × Int) => whole_signed.p0 k x.1 x.2.1 x.2.2.1 x.2.2.2.1 x.2.2.2.2.1 x.2.2.2.2.2⟩]
def fns : Nat → List (FuncId × FS) := fun k => [(93, ⟨[(.list (.int .u32))], [(.list (.int .u32))], fun (x : (List Int)) => nat_Norm.f k x⟩)]
def fgs : Nat → List (FuncId × FG) := fun _ => []
def fs (k : Nat) : FS := ⟨[(.list (.int .u32)), (.list (.int .i64))], [(.st (.pair .bool (.list (.int .u32))))], fun (x : (List Int) × (List Int)) => whole_signed.f k x.1 x.2⟩
theorem ok : FnOk Tryd.prog 80 29 Tryd.f80.results.toList (Tryd.f80.body.getD .skip) 2 := ⟨⟨Tryd.f80, by kernel_rfl, by kernel_rfl, by kernel_rfl, rfl, by kernel_rfl⟩, by kernel_rfl, by decide⟩
theorem c (k : Nat) : Contract Tryd.prog 80 (fs k) :=
  fn_sound (ps := [(.list (.int .u32)), (.list (.int .i64))]) (rs := [(.st (.pair .bool (.list (.int .u32))))]) (pts := ptL) (fns := fns) (fgs := fgs) (fws := fws) (tys := tyTab) (main := fun k (x : (List Int) × (List Int)) => whole_signed.f k x.1 x.2) ok mix tyOk ⟨⟨rfl, fun _ => rfl, fun k x => by kernel_rfl⟩, trivial⟩ (fun k x => by kernel_rfl) (fun k => ⟨⟨nat_Norm.c k, trivial⟩, trivial, trivial⟩) k
end whole_signed

namespace whole_Norm
def fws : Nat → List (FuncId × FW) := fun _ => []
def ptL : List (Pt (TD [(.st (.pair .bool (.list (.int .u32))))])) := []
def fns : Nat → List (FuncId × FS) := fun k => [(39, ⟨[(.st (.pair .bool (.list (.int .u32))))], [(.int .i64)], fun (x : (Bool × (List Int))) => whole_Sign.f k x⟩), (80, ⟨[(.list (.int .u32)), (.list (.int .i64))], [(.st (.pair .bool (.list (.int .u32))))], fun (x : (List Int) × (List Int)) => whole_signed.f k x.1 x.2⟩)]
def fgs : Nat → List (FuncId × FG) := fun _ => []
def fs (k : Nat) : FS := ⟨[(.st (.pair .bool (.list (.int .u32))))], [(.st (.pair .bool (.list (.int .u32))))], fun (x : (Bool × (List Int))) => whole_Norm.f k x⟩
theorem ok : FnOk Tryd.prog 58 9 Tryd.f58.results.toList (Tryd.f58.body.getD .skip) 1 := ⟨⟨Tryd.f58, by kernel_rfl, by kernel_rfl, by kernel_rfl, rfl, by kernel_rfl⟩, by kernel_rfl, by decide⟩
theorem c (k : Nat) : Contract Tryd.prog 58 (fs k) :=
  fn_sound (ps := [(.st (.pair .bool (.list (.int .u32))))]) (rs := [(.st (.pair .bool (.list (.int .u32))))]) (pts := ptL) (fns := fns) (fgs := fgs) (fws := fws) (tys := tyTab) (main := fun k (x : (Bool × (List Int))) => whole_Norm.f k x) ok mix tyOk trivial (fun k x => by kernel_rfl) (fun k => ⟨⟨whole_Sign.c k, whole_signed.c k, trivial⟩, trivial, trivial⟩) k
end whole_Norm

namespace ratio_made
def fws : Nat → List (FuncId × FW) := fun _ => []
def ptL : List (Pt (TD [(.st (.pair (.st (.pair .bool (.list (.int .u32)))) (.list (.int .u32))))])) := []
def fns : Nat → List (FuncId × FS) := fun k => [(56, ⟨[(.list (.int .u32)), (.list (.int .u32))], [(.list (.int .u32))], fun (x : (List Int) × (List Int)) => nat_Gcd.f k x.1 x.2⟩), (57, ⟨[(.list (.int .u32)), (.list (.int .u32))], [(.list (.int .u32)), (.list (.int .u32)), (.int .i64)], fun (x : (List Int) × (List Int)) => nat_Div.f k x.1 x.2⟩), (58, ⟨[(.st (.pair .bool (.list (.int .u32))))], [(.st (.pair .bool (.list (.int .u32))))], fun (x : (Bool × (List Int))) => whole_Norm.f k x⟩)]
def fgs : Nat → List (FuncId × FG) := fun _ => []
def fs (k : Nat) : FS := ⟨[(.st (.pair .bool (.list (.int .u32)))), (.list (.int .u32))], [(.st (.pair (.st (.pair .bool (.list (.int .u32)))) (.list (.int .u32))))], fun (x : (Bool × (List Int)) × (List Int)) => ratio_made.f k x.1 x.2⟩
theorem ok : FnOk Tryd.prog 31 38 Tryd.f31.results.toList (Tryd.f31.body.getD .skip) 2 := ⟨⟨Tryd.f31, by kernel_rfl, by kernel_rfl, by kernel_rfl, rfl, by kernel_rfl⟩, by kernel_rfl, by decide⟩
theorem c (k : Nat) : Contract Tryd.prog 31 (fs k) :=
  fn_sound (ps := [(.st (.pair .bool (.list (.int .u32)))), (.list (.int .u32))]) (rs := [(.st (.pair (.st (.pair .bool (.list (.int .u32)))) (.list (.int .u32))))]) (pts := ptL) (fns := fns) (fgs := fgs) (fws := fws) (tys := tyTab) (main := fun k (x : (Bool × (List Int)) × (List Int)) => ratio_made.f k x.1 x.2) ok mix tyOk trivial (fun k x => by kernel_rfl) (fun k => ⟨⟨nat_Gcd.c k, nat_Div.c k, whole_Norm.c k, trivial⟩, trivial, trivial⟩) k
end ratio_made

namespace ratio_Norm
def fws : Nat → List (FuncId × FW) := fun _ => []
def ptL : List (Pt (TD [(.st (.pair (.st (.pair .bool (.list (.int .u32)))) (.list (.int .u32))))])) := []
def fns : Nat → List (FuncId × FS) := fun k => [(44, ⟨[(.list (.int .u32))], [(.int .i64)], fun (x : (List Int)) => nat_Bits.f k x⟩), (31, ⟨[(.st (.pair .bool (.list (.int .u32)))), (.list (.int .u32))], [(.st (.pair (.st (.pair .bool (.list (.int .u32)))) (.list (.int .u32))))], fun (x : (Bool × (List Int)) × (List Int)) => ratio_made.f k x.1 x.2⟩)]
def fgs : Nat → List (FuncId × FG) := fun _ => []
def fs (k : Nat) : FS := ⟨[(.st (.pair (.st (.pair .bool (.list (.int .u32)))) (.list (.int .u32))))], [(.st (.pair (.st (.pair .bool (.list (.int .u32)))) (.list (.int .u32))))], fun (x : ((Bool × (List Int)) × (List Int))) => ratio_Norm.f k x⟩
theorem ok : FnOk Tryd.prog 20 14 Tryd.f20.results.toList (Tryd.f20.body.getD .skip) 1 := ⟨⟨Tryd.f20, by kernel_rfl, by kernel_rfl, by kernel_rfl, rfl, by kernel_rfl⟩, by kernel_rfl, by decide⟩
theorem c (k : Nat) : Contract Tryd.prog 20 (fs k) :=
  fn_sound (ps := [(.st (.pair (.st (.pair .bool (.list (.int .u32)))) (.list (.int .u32))))]) (rs := [(.st (.pair (.st (.pair .bool (.list (.int .u32)))) (.list (.int .u32))))]) (pts := ptL) (fns := fns) (fgs := fgs) (fws := fws) (tys := tyTab) (main := fun k (x : ((Bool × (List Int)) × (List Int))) => ratio_Norm.f k x) ok mix tyOk trivial (fun k x => by kernel_rfl) (fun k => ⟨⟨nat_Bits.c k, ratio_made.c k, trivial⟩, trivial, trivial⟩) k
end ratio_Norm

namespace nat_Text
def s5 : PSig := ⟨0, [], []⟩
def s0 : PSig := ⟨0, [(5, (.int .u8), false)], [(1, .val (.int .i64)), (6, .own 0), (7, .val (.list (.int .u32)))]⟩
def s4 : PSig := ⟨0, [(5, (.int .u8), false), (5, (.int .u8), false)], [(6, .own 0), (9, .own 1), (43, .val (.int .i64)), (44, .val (.int .i64))]⟩
def fws : Nat → List (FuncId × FW) := fun _ => []
def ptL : List (Pt (TD [.str, (.int .i64)])) := [⟨5, s5, fun k (x : Unit) => nat_Text.p5 k x⟩, ⟨0, s0, fun k (x : (List Int) × Int × (List Int)) => nat_Text.p0 k x.1 x.2.1 x.2.2⟩, ⟨4, s4, fun k (x : (List Int) × (List Int) × Int × Int) => nat_Text.p4 k x.1 x.2.1 x.2.2.1 x.2.2.2⟩]
def fns : Nat → List (FuncId × FS) := fun k => [(55, ⟨[(.list (.int .u32))], [(.list (.int .u32))], fun (x : (List Int)) => nat_own.f k x⟩), (78, ⟨[(.list (.int .u32)), (.int .u32)], [(.list (.int .u32)), (.int .u32)], fun (x : (List Int) × Int) => nat_short.f k x.1 x.2⟩), (64, ⟨[(.list (.int .u32))], [(.list (.int .u32))], fun (x : (List Int)) => nat_trim.f k x⟩)]
def fgs : Nat → List (FuncId × FG) := fun _ => []
def fs (k : Nat) : FS := ⟨[(.list (.int .u32)), (.int .i64)], [.str, (.int .i64)], fun (x : (List Int) × Int) => nat_Text.f k x.1 x.2⟩
theorem ok : FnOk Tryd.prog 65 61 Tryd.f65.results.toList (Tryd.f65.body.getD .skip) 2 := ⟨⟨Tryd.f65, by kernel_rfl, by kernel_rfl, by kernel_rfl, rfl, by kernel_rfl⟩, by kernel_rfl, by decide⟩
theorem c (k : Nat) : Contract Tryd.prog 65 (fs k) :=
  fn_sound (ps := [(.list (.int .u32)), (.int .i64)]) (rs := [.str, (.int .i64)]) (pts := ptL) (fns := fns) (fgs := fgs) (fws := fws) (tys := tyTab) (main := fun k (x : (List Int) × Int) => nat_Text.f k x.1 x.2) ok mix tyOk ⟨⟨rfl, fun _ => rfl, fun k x => by kernel_rfl⟩, ⟨rfl, fun _ => rfl, fun k x => by kernel_rfl⟩, ⟨rfl, fun _ => rfl, fun k x => by kernel_rfl⟩, trivial⟩ (fun k x => by kernel_rfl) (fun k => ⟨⟨nat_own.c k, nat_short.c k, nat_trim.c k, trivial⟩, trivial, trivial⟩) k
end nat_Text

namespace whole_Text
def fws : Nat → List (FuncId × FW) := fun _ => []
def ptL : List (Pt (TD [.str])) := []
def fns : Nat → List (FuncId × FS) := fun k => [(65, ⟨[(.list (.int .u32)), (.int .i64)], [.str, (.int .i64)], fun (x : (List Int) × Int) => nat_Text.f k x.1 x.2⟩), (39, ⟨[(.st (.pair .bool (.list (.int .u32))))], [(.int .i64)], fun (x : (Bool × (List Int))) => whole_Sign.f k x⟩)]
def fgs : Nat → List (FuncId × FG) := fun _ => []
def fs (k : Nat) : FS := ⟨[(.st (.pair .bool (.list (.int .u32))))], [.str], fun (x : (Bool × (List Int))) => whole_Text.f k x⟩
theorem ok : FnOk Tryd.prog 36 17 Tryd.f36.results.toList (Tryd.f36.body.getD .skip) 1 := ⟨⟨Tryd.f36, by kernel_rfl, by kernel_rfl, by kernel_rfl, rfl, by kernel_rfl⟩, by kernel_rfl, by decide⟩
theorem c (k : Nat) : Contract Tryd.prog 36 (fs k) :=
  fn_sound (ps := [(.st (.pair .bool (.list (.int .u32))))]) (rs := [.str]) (pts := ptL) (fns := fns) (fgs := fgs) (fws := fws) (tys := tyTab) (main := fun k (x : (Bool × (List Int))) => whole_Text.f k x) ok mix tyOk trivial (fun k x => by kernel_rfl) (fun k => ⟨⟨nat_Text.c k, whole_Sign.c k, trivial⟩, trivial, trivial⟩) k
end whole_Text

namespace ratio_decimal
def fws : Nat → List (FuncId × FW) := fun _ => []
def ptL : List (Pt (TD [.str])) := []
def fns : Nat → List (FuncId × FS) := fun k => [(65, ⟨[(.list (.int .u32)), (.int .i64)], [.str, (.int .i64)], fun (x : (List Int) × Int) => nat_Text.f k x.1 x.2⟩)]
def fgs : Nat → List (FuncId × FG) := fun _ => []
def fs (k : Nat) : FS := ⟨[(.list (.int .u32))], [.str], fun (x : (List Int)) => ratio_decimal.f k x⟩
theorem ok : FnOk Tryd.prog 38 11 Tryd.f38.results.toList (Tryd.f38.body.getD .skip) 1 := ⟨⟨Tryd.f38, by kernel_rfl, by kernel_rfl, by kernel_rfl, rfl, by kernel_rfl⟩, by kernel_rfl, by decide⟩
theorem c (k : Nat) : Contract Tryd.prog 38 (fs k) :=
  fn_sound (ps := [(.list (.int .u32))]) (rs := [.str]) (pts := ptL) (fns := fns) (fgs := fgs) (fws := fws) (tys := tyTab) (main := fun k (x : (List Int)) => ratio_decimal.f k x) ok mix tyOk trivial (fun k x => by kernel_rfl) (fun k => ⟨⟨nat_Text.c k, trivial⟩, trivial, trivial⟩) k
end ratio_decimal

namespace ratio_Text
def s11 : PSig := ⟨0, [], [(3, .val .str)]⟩
def fws : Nat → List (FuncId × FW) := fun _ => []
def ptL : List (Pt (TD [.str])) := [⟨11, s11, fun k (x : ByteArray) => ratio_Text.p11 k x⟩]
def fns : Nat → List (FuncId × FS) := fun k => [(20, ⟨[(.st (.pair (.st (.pair .bool (.list (.int .u32)))) (.list (.int .u32))))], [(.st (.pair (.st (.pair .bool (.list (.int .u32)))) (.list (.int .u32))))], fun (x : ((Bool × (List Int)) × (List Int))) => ratio_Norm.f k x⟩), (36, ⟨[(.st (.pair .bool (.list (.int .u32))))], [.str], fun (x : (Bool × (List Int))) => whole_Text.f k x⟩), (37, ⟨[(.list (.int .u32)), (.list (.int .u32))], [(.int .i64)], fun (x : (List Int) × (List Int)) => nat_Cmp.f k x.1 x.2⟩), (38, ⟨[(.list (.int .u32))], [.str], fun (x : (List Int)) => ratio_decimal.f k x⟩)]
def fgs : Nat → List (FuncId × FG) := fun _ => []
def fs (k : Nat) : FS := ⟨[(.st (.pair (.st (.pair .bool (.list (.int .u32)))) (.list (.int .u32))))], [.str], fun (x : ((Bool × (List Int)) × (List Int))) => ratio_Text.f k x⟩
theorem ok : FnOk Tryd.prog 15 21 Tryd.f15.results.toList (Tryd.f15.body.getD .skip) 1 := ⟨⟨Tryd.f15, by kernel_rfl, by kernel_rfl, by kernel_rfl, rfl, by kernel_rfl⟩, by kernel_rfl, by decide⟩
theorem c (k : Nat) : Contract Tryd.prog 15 (fs k) :=
  fn_sound (ps := [(.st (.pair (.st (.pair .bool (.list (.int .u32)))) (.list (.int .u32))))]) (rs := [.str]) (pts := ptL) (fns := fns) (fgs := fgs) (fws := fws) (tys := tyTab) (main := fun k (x : ((Bool × (List Int)) × (List Int))) => ratio_Text.f k x) ok mix tyOk ⟨⟨rfl, fun _ => rfl, fun k x => by kernel_rfl⟩, trivial⟩ (fun k x => by kernel_rfl) (fun k => ⟨⟨ratio_Norm.c k, whole_Text.c k, nat_Cmp.c k, ratio_decimal.c k, trivial⟩, trivial, trivial⟩) k
end ratio_Text

namespace ratio_Sign
def fws : Nat → List (FuncId × FW) := fun _ => []
def ptL : List (Pt (TD [(.int .i64)])) := []
def fns : Nat → List (FuncId × FS) := fun k => [(20, ⟨[(.st (.pair (.st (.pair .bool (.list (.int .u32)))) (.list (.int .u32))))], [(.st (.pair (.st (.pair .bool (.list (.int .u32)))) (.list (.int .u32))))], fun (x : ((Bool × (List Int)) × (List Int))) => ratio_Norm.f k x⟩), (39, ⟨[(.st (.pair .bool (.list (.int .u32))))], [(.int .i64)], fun (x : (Bool × (List Int))) => whole_Sign.f k x⟩)]
def fgs : Nat → List (FuncId × FG) := fun _ => []
def fs (k : Nat) : FS := ⟨[(.st (.pair (.st (.pair .bool (.list (.int .u32)))) (.list (.int .u32))))], [(.int .i64)], fun (x : ((Bool × (List Int)) × (List Int))) => ratio_Sign.f k x⟩
theorem ok : FnOk Tryd.prog 16 7 Tryd.f16.results.toList (Tryd.f16.body.getD .skip) 1 := ⟨⟨Tryd.f16, by kernel_rfl, by kernel_rfl, by kernel_rfl, rfl, by kernel_rfl⟩, by kernel_rfl, by decide⟩
theorem c (k : Nat) : Contract Tryd.prog 16 (fs k) :=
  fn_sound (ps := [(.st (.pair (.st (.pair .bool (.list (.int .u32)))) (.list (.int .u32))))]) (rs := [(.int .i64)]) (pts := ptL) (fns := fns) (fgs := fgs) (fws := fws) (tys := tyTab) (main := fun k (x : ((Bool × (List Int)) × (List Int))) => ratio_Sign.f k x) ok mix tyOk trivial (fun k x => by kernel_rfl) (fun k => ⟨⟨ratio_Norm.c k, whole_Sign.c k, trivial⟩, trivial, trivial⟩) k
end ratio_Sign

namespace delta_Text
def s15 : PSig := ⟨0, [], [(3, .val .str)]⟩
def fws : Nat → List (FuncId × FW) := fun _ => []
def ptL : List (Pt (TD [.str])) := [⟨15, s15, fun k (x : ByteArray) => delta_Text.p15 k x⟩]
def fns : Nat → List (FuncId × FS) := fun k => [(15, ⟨[(.st (.pair (.st (.pair .bool (.list (.int .u32)))) (.list (.int .u32))))], [.str], fun (x : ((Bool × (List Int)) × (List Int))) => ratio_Text.f k x⟩), (16, ⟨[(.st (.pair (.st (.pair .bool (.list (.int .u32)))) (.list (.int .u32))))], [(.int .i64)], fun (x : ((Bool × (List Int)) × (List Int))) => ratio_Sign.f k x⟩)]
def fgs : Nat → List (FuncId × FG) := fun _ => []
def fs (k : Nat) : FS := ⟨[(.st (.pair (.st (.pair (.st (.pair .bool (.list (.int .u32)))) (.list (.int .u32)))) (.st (.pair (.st (.pair .bool (.list (.int .u32)))) (.list (.int .u32))))))], [.str], fun (x : (((Bool × (List Int)) × (List Int)) × ((Bool × (List Int)) × (List Int)))) => delta_Text.f k x⟩
theorem ok : FnOk Tryd.prog 6 28 Tryd.f6.results.toList (Tryd.f6.body.getD .skip) 1 := ⟨⟨Tryd.f6, by kernel_rfl, by kernel_rfl, by kernel_rfl, rfl, by kernel_rfl⟩, by kernel_rfl, by decide⟩
theorem c (k : Nat) : Contract Tryd.prog 6 (fs k) :=
  fn_sound (ps := [(.st (.pair (.st (.pair (.st (.pair .bool (.list (.int .u32)))) (.list (.int .u32)))) (.st (.pair (.st (.pair .bool (.list (.int .u32)))) (.list (.int .u32))))))]) (rs := [.str]) (pts := ptL) (fns := fns) (fgs := fgs) (fws := fws) (tys := tyTab) (main := fun k (x : (((Bool × (List Int)) × (List Int)) × ((Bool × (List Int)) × (List Int)))) => delta_Text.f k x) ok mix tyOk ⟨⟨rfl, fun _ => rfl, fun k x => by kernel_rfl⟩, trivial⟩ (fun k x => by kernel_rfl) (fun k => ⟨⟨ratio_Text.c k, ratio_Sign.c k, trivial⟩, trivial, trivial⟩) k
end delta_Text

namespace stringslite_HasSuffix
def fws : Nat → List (FuncId × FW) := fun _ => []
def ptL : List (Pt (TD [.bool])) := []
def fns : Nat → List (FuncId × FS) := fun _ => []
def fgs : Nat → List (FuncId × FG) := fun _ => []
def fs (k : Nat) : FS := ⟨[.str, .str], [.bool], fun (x : ByteArray × ByteArray) => stringslite_HasSuffix.f k x.1 x.2⟩
theorem ok : FnOk Tryd.prog 45 21 Tryd.f45.results.toList (Tryd.f45.body.getD .skip) 2 := ⟨⟨Tryd.f45, by kernel_rfl, by kernel_rfl, by kernel_rfl, rfl, by kernel_rfl⟩, by kernel_rfl, by decide⟩
theorem c (k : Nat) : Contract Tryd.prog 45 (fs k) :=
  fn_sound (ps := [.str, .str]) (rs := [.bool]) (pts := ptL) (fns := fns) (fgs := fgs) (fws := fws) (tys := tyTab) (main := fun k (x : ByteArray × ByteArray) => stringslite_HasSuffix.f k x.1 x.2) ok mix tyOk trivial (fun k x => by kernel_rfl) (fun _ => ⟨trivial, trivial, trivial⟩) k
end stringslite_HasSuffix

namespace stringslite_CutSuffix
def fws : Nat → List (FuncId × FW) := fun _ => []
def ptL : List (Pt (TD [.str, .bool])) := []
def fns : Nat → List (FuncId × FS) := fun k => [(45, ⟨[.str, .str], [.bool], fun (x : ByteArray × ByteArray) => stringslite_HasSuffix.f k x.1 x.2⟩)]
def fgs : Nat → List (FuncId × FG) := fun _ => []
def fs (k : Nat) : FS := ⟨[.str, .str], [.str, .bool], fun (x : ByteArray × ByteArray) => stringslite_CutSuffix.f k x.1 x.2⟩
theorem ok : FnOk Tryd.prog 21 18 Tryd.f21.results.toList (Tryd.f21.body.getD .skip) 2 := ⟨⟨Tryd.f21, by kernel_rfl, by kernel_rfl, by kernel_rfl, rfl, by kernel_rfl⟩, by kernel_rfl, by decide⟩
theorem c (k : Nat) : Contract Tryd.prog 21 (fs k) :=
  fn_sound (ps := [.str, .str]) (rs := [.str, .bool]) (pts := ptL) (fns := fns) (fgs := fgs) (fws := fws) (tys := tyTab) (main := fun k (x : ByteArray × ByteArray) => stringslite_CutSuffix.f k x.1 x.2) ok mix tyOk trivial (fun k x => by kernel_rfl) (fun k => ⟨⟨stringslite_HasSuffix.c k, trivial⟩, trivial, trivial⟩) k
end stringslite_CutSuffix

namespace strings_CutSuffix
def fws : Nat → List (FuncId × FW) := fun _ => []
def ptL : List (Pt (TD [.str, .bool])) := []
def fns : Nat → List (FuncId × FS) := fun k => [(21, ⟨[.str, .str], [.str, .bool], fun (x : ByteArray × ByteArray) => stringslite_CutSuffix.f k x.1 x.2⟩)]
def fgs : Nat → List (FuncId × FG) := fun _ => []
def fs (k : Nat) : FS := ⟨[.str, .str], [.str, .bool], fun (x : ByteArray × ByteArray) => strings_CutSuffix.f k x.1 x.2⟩
theorem ok : FnOk Tryd.prog 11 11 Tryd.f11.results.toList (Tryd.f11.body.getD .skip) 2 := ⟨⟨Tryd.f11, by kernel_rfl, by kernel_rfl, by kernel_rfl, rfl, by kernel_rfl⟩, by kernel_rfl, by decide⟩
theorem c (k : Nat) : Contract Tryd.prog 11 (fs k) :=
  fn_sound (ps := [.str, .str]) (rs := [.str, .bool]) (pts := ptL) (fns := fns) (fgs := fgs) (fws := fws) (tys := tyTab) (main := fun k (x : ByteArray × ByteArray) => strings_CutSuffix.f k x.1 x.2) ok mix tyOk trivial (fun k x => by kernel_rfl) (fun k => ⟨⟨stringslite_CutSuffix.c k, trivial⟩, trivial, trivial⟩) k
end strings_CutSuffix

namespace bytealg_IndexByteString
theorem c (k : Nat) : Contract Tryd.prog 87 ⟨[.str, (.int .u8)], [(.int .i64)], fun (x : ByteArray × Int) => bytealg_IndexByteString.f k x.1 x.2⟩ :=
  indexByteString_contract (fn := Tryd.f87) (by kernel_rfl) (by kernel_rfl) (by kernel_rfl) (by kernel_rfl) (by kernel_rfl) (fun _ _ => rfl)
end bytealg_IndexByteString

namespace stringslite_IndexByte
def fws : Nat → List (FuncId × FW) := fun _ => []
def ptL : List (Pt (TD [(.int .i64)])) := []
def fns : Nat → List (FuncId × FS) := fun k => [(87, ⟨[.str, (.int .u8)], [(.int .i64)], fun (x : ByteArray × Int) => bytealg_IndexByteString.f k x.1 x.2⟩)]
def fgs : Nat → List (FuncId × FG) := fun _ => []
def fs (k : Nat) : FS := ⟨[.str, (.int .u8)], [(.int .i64)], fun (x : ByteArray × Int) => stringslite_IndexByte.f k x.1 x.2⟩
theorem ok : FnOk Tryd.prog 75 8 Tryd.f75.results.toList (Tryd.f75.body.getD .skip) 2 := ⟨⟨Tryd.f75, by kernel_rfl, by kernel_rfl, by kernel_rfl, rfl, by kernel_rfl⟩, by kernel_rfl, by decide⟩
theorem c (k : Nat) : Contract Tryd.prog 75 (fs k) :=
  fn_sound (ps := [.str, (.int .u8)]) (rs := [(.int .i64)]) (pts := ptL) (fns := fns) (fgs := fgs) (fws := fws) (tys := tyTab) (main := fun k (x : ByteArray × Int) => stringslite_IndexByte.f k x.1 x.2) ok mix tyOk trivial (fun k x => by kernel_rfl) (fun k => ⟨⟨bytealg_IndexByteString.c k, trivial⟩, trivial, trivial⟩) k
end stringslite_IndexByte

namespace strings_IndexByte
def fws : Nat → List (FuncId × FW) := fun _ => []
def ptL : List (Pt (TD [(.int .i64)])) := []
def fns : Nat → List (FuncId × FS) := fun k => [(75, ⟨[.str, (.int .u8)], [(.int .i64)], fun (x : ByteArray × Int) => stringslite_IndexByte.f k x.1 x.2⟩)]
def fgs : Nat → List (FuncId × FG) := fun _ => []
def fs (k : Nat) : FS := ⟨[.str, (.int .u8)], [(.int .i64)], fun (x : ByteArray × Int) => strings_IndexByte.f k x.1 x.2⟩
theorem ok : FnOk Tryd.prog 46 8 Tryd.f46.results.toList (Tryd.f46.body.getD .skip) 2 := ⟨⟨Tryd.f46, by kernel_rfl, by kernel_rfl, by kernel_rfl, rfl, by kernel_rfl⟩, by kernel_rfl, by decide⟩
theorem c (k : Nat) : Contract Tryd.prog 46 (fs k) :=
  fn_sound (ps := [.str, (.int .u8)]) (rs := [(.int .i64)]) (pts := ptL) (fns := fns) (fgs := fgs) (fws := fws) (tys := tyTab) (main := fun k (x : ByteArray × Int) => strings_IndexByte.f k x.1 x.2) ok mix tyOk trivial (fun k x => by kernel_rfl) (fun k => ⟨⟨stringslite_IndexByte.c k, trivial⟩, trivial, trivial⟩) k
end strings_IndexByte

namespace utf8_ValidRune
def s7 : PSig := ⟨0, [], [(0, .val (.int .i32))]⟩
def s11 : PSig := ⟨0, [], []⟩
def fws : Nat → List (FuncId × FW) := fun _ => []
def ptL : List (Pt (TD [.bool])) := [⟨7, s7, fun k (x : Int) => utf8_ValidRune.p7 k x⟩, ⟨11, s11, fun k (x : Unit) => utf8_ValidRune.p11 k x⟩]
def fns : Nat → List (FuncId × FS) := fun _ => []
def fgs : Nat → List (FuncId × FG) := fun _ => []
def fs (k : Nat) : FS := ⟨[(.int .i32)], [.bool], fun (x : Int) => utf8_ValidRune.f k x⟩
theorem ok : FnOk Tryd.prog 47 17 Tryd.f47.results.toList (Tryd.f47.body.getD .skip) 1 := ⟨⟨Tryd.f47, by kernel_rfl, by kernel_rfl, by kernel_rfl, rfl, by kernel_rfl⟩, by kernel_rfl, by decide⟩
theorem c (k : Nat) : Contract Tryd.prog 47 (fs k) :=
  fn_sound (ps := [(.int .i32)]) (rs := [.bool]) (pts := ptL) (fns := fns) (fgs := fgs) (fws := fws) (tys := tyTab) (main := fun k (x : Int) => utf8_ValidRune.f k x) ok mix tyOk ⟨⟨rfl, fun _ => rfl, fun k x => by kernel_rfl⟩, ⟨rfl, fun _ => rfl, fun k x => by kernel_rfl⟩, trivial⟩ (fun k x => by kernel_rfl) (fun _ => ⟨trivial, trivial, trivial⟩) k
end utf8_ValidRune

namespace bytealg_Cutover
def fws : Nat → List (FuncId × FW) := fun _ => []
def ptL : List (Pt (TD [(.int .i64)])) := []
def fns : Nat → List (FuncId × FS) := fun _ => []
def fgs : Nat → List (FuncId × FG) := fun _ => []
def fs (k : Nat) : FS := ⟨[(.int .i64)], [(.int .i64)], fun (x : Int) => bytealg_Cutover.f k x⟩
theorem ok : FnOk Tryd.prog 48 6 Tryd.f48.results.toList (Tryd.f48.body.getD .skip) 1 := ⟨⟨Tryd.f48, by kernel_rfl, by kernel_rfl, by kernel_rfl, rfl, by kernel_rfl⟩, by kernel_rfl, by decide⟩
theorem c (k : Nat) : Contract Tryd.prog 48 (fs k) :=
  fn_sound (ps := [(.int .i64)]) (rs := [(.int .i64)]) (pts := ptL) (fns := fns) (fgs := fgs) (fws := fws) (tys := tyTab) (main := fun k (x : Int) => bytealg_Cutover.f k x) ok mix tyOk trivial (fun k x => by kernel_rfl) (fun _ => ⟨trivial, trivial, trivial⟩) k
end bytealg_Cutover

namespace strings_IndexRune
def s73 : PSig := ⟨0, [], [(0, .val .str), (1, .val (.int .i32))]⟩
def fws : Nat → List (FuncId × FW) := fun _ => []
def ptL : List (Pt (TD [(.int .i64)])) := [⟨73, s73, fun k (x : ByteArray × Int) => strings_IndexRune.p73 k x.1 x.2⟩]
def fns : Nat → List (FuncId × FS) := fun k => [(46, ⟨[.str, (.int .u8)], [(.int .i64)], fun (x : ByteArray × Int) => strings_IndexByte.f k x.1 x.2⟩), (47, ⟨[(.int .i32)], [.bool], fun (x : Int) => utf8_ValidRune.f k x⟩)]
def fgs : Nat → List (FuncId × FG) := fun _ => []
def fs (k : Nat) : FS := ⟨[.str, (.int .i32)], [(.int .i64)], fun (x : ByteArray × Int) => strings_IndexRune.f k x.1 x.2⟩
theorem ok : FnOk Tryd.prog 22 187 Tryd.f22.results.toList (Tryd.f22.body.getD .skip) 2 := ⟨⟨Tryd.f22, by kernel_rfl, by kernel_rfl, by kernel_rfl, rfl, by kernel_rfl⟩, by kernel_rfl, by decide⟩
theorem c (k : Nat) : Contract Tryd.prog 22 (fs k) :=
  fn_sound (ps := [.str, (.int .i32)]) (rs := [(.int .i64)]) (pts := ptL) (fns := fns) (fgs := fgs) (fws := fws) (tys := tyTab) (main := fun k (x : ByteArray × Int) => strings_IndexRune.f k x.1 x.2) ok mix tyOk ⟨⟨rfl, fun _ => rfl, fun k x => by kernel_rfl⟩, trivial⟩ (fun k x => by kernel_rfl) (fun k => ⟨⟨strings_IndexByte.c k, utf8_ValidRune.c k, trivial⟩, trivial, trivial⟩) k
end strings_IndexRune

namespace strings_shouldUseASCIISet
def fws : Nat → List (FuncId × FW) := fun _ => []
def ptL : List (Pt (TD [.bool])) := []
def fns : Nat → List (FuncId × FS) := fun _ => []
def fgs : Nat → List (FuncId × FG) := fun _ => []
def fs (k : Nat) : FS := ⟨[(.int .i64)], [.bool], fun (x : Int) => strings_shouldUseASCIISet.f k x⟩
theorem ok : FnOk Tryd.prog 23 5 Tryd.f23.results.toList (Tryd.f23.body.getD .skip) 1 := ⟨⟨Tryd.f23, by kernel_rfl, by kernel_rfl, by kernel_rfl, rfl, by kernel_rfl⟩, by kernel_rfl, by decide⟩
theorem c (k : Nat) : Contract Tryd.prog 23 (fs k) :=
  fn_sound (ps := [(.int .i64)]) (rs := [.bool]) (pts := ptL) (fns := fns) (fgs := fgs) (fws := fws) (tys := tyTab) (main := fun k (x : Int) => strings_shouldUseASCIISet.f k x) ok mix tyOk trivial (fun k x => by kernel_rfl) (fun _ => ⟨trivial, trivial, trivial⟩) k
end strings_shouldUseASCIISet

namespace utf8_RuneStart
def fws : Nat → List (FuncId × FW) := fun _ => []
def ptL : List (Pt (TD [.bool])) := []
def fns : Nat → List (FuncId × FS) := fun _ => []
def fgs : Nat → List (FuncId × FG) := fun _ => []
def fs (k : Nat) : FS := ⟨[(.int .u8)], [.bool], fun (x : Int) => utf8_RuneStart.f k x⟩
theorem ok : FnOk Tryd.prog 50 6 Tryd.f50.results.toList (Tryd.f50.body.getD .skip) 1 := ⟨⟨Tryd.f50, by kernel_rfl, by kernel_rfl, by kernel_rfl, rfl, by kernel_rfl⟩, by kernel_rfl, by decide⟩
theorem c (k : Nat) : Contract Tryd.prog 50 (fs k) :=
  fn_sound (ps := [(.int .u8)]) (rs := [.bool]) (pts := ptL) (fns := fns) (fgs := fgs) (fws := fws) (tys := tyTab) (main := fun k (x : Int) => utf8_RuneStart.f k x) ok mix tyOk trivial (fun k x => by kernel_rfl) (fun _ => ⟨trivial, trivial, trivial⟩) k
end utf8_RuneStart

namespace utf8_decodeRuneInStringSlow
def fws : Nat → List (FuncId × FW) := fun _ => []
def ptL : List (Pt (TD [(.int .i32), (.int .i64)])) := []
def fns : Nat → List (FuncId × FS) := fun _ => []
def fgs : Nat → List (FuncId × FG) := fun _ => []
def fs (k : Nat) : FS := ⟨[.str], [(.int .i32), (.int .i64)], fun (x : ByteArray) => utf8_decodeRuneInStringSlow.f k x⟩
theorem ok : FnOk Tryd.prog 76 117 Tryd.f76.results.toList (Tryd.f76.body.getD .skip) 1 := ⟨⟨Tryd.f76, by kernel_rfl, by kernel_rfl, by kernel_rfl, rfl, by kernel_rfl⟩, by kernel_rfl, by decide⟩
theorem c (k : Nat) : Contract Tryd.prog 76 (fs k) :=
  fn_sound (ps := [.str]) (rs := [(.int .i32), (.int .i64)]) (pts := ptL) (fns := fns) (fgs := fgs) (fws := fws) (tys := tyTab) (main := fun k (x : ByteArray) => utf8_decodeRuneInStringSlow.f k x) ok mix tyOk trivial (fun k x => by kernel_rfl) (fun _ => ⟨trivial, trivial, trivial⟩) k
end utf8_decodeRuneInStringSlow

namespace utf8_DecodeRuneInString
def s7 : PSig := ⟨0, [], [(0, .val .str)]⟩
def fws : Nat → List (FuncId × FW) := fun _ => []
def ptL : List (Pt (TD [(.int .i32), (.int .i64)])) := [⟨7, s7, fun k (x : ByteArray) => utf8_DecodeRuneInString.p7 k x⟩]
def fns : Nat → List (FuncId × FS) := fun k => [(76, ⟨[.str], [(.int .i32), (.int .i64)], fun (x : ByteArray) => utf8_decodeRuneInStringSlow.f k x⟩)]
def fgs : Nat → List (FuncId × FG) := fun _ => []
def fs (k : Nat) : FS := ⟨[.str], [(.int .i32), (.int .i64)], fun (x : ByteArray) => utf8_DecodeRuneInString.f k x⟩
theorem ok : FnOk Tryd.prog 51 19 Tryd.f51.results.toList (Tryd.f51.body.getD .skip) 1 := ⟨⟨Tryd.f51, by kernel_rfl, by kernel_rfl, by kernel_rfl, rfl, by kernel_rfl⟩, by kernel_rfl, by decide⟩
theorem c (k : Nat) : Contract Tryd.prog 51 (fs k) :=
  fn_sound (ps := [.str]) (rs := [(.int .i32), (.int .i64)]) (pts := ptL) (fns := fns) (fgs := fgs) (fws := fws) (tys := tyTab) (main := fun k (x : ByteArray) => utf8_DecodeRuneInString.f k x) ok mix tyOk ⟨⟨rfl, fun _ => rfl, fun k x => by kernel_rfl⟩, trivial⟩ (fun k x => by kernel_rfl) (fun k => ⟨⟨utf8_decodeRuneInStringSlow.c k, trivial⟩, trivial, trivial⟩) k
end utf8_DecodeRuneInString

namespace utf8_DecodeLastRuneInString
def s0 : PSig := ⟨0, [], [(0, .val .str), (4, .val (.int .i64)), (5, .val (.int .i64)), (6, .val (.int .i64))]⟩
def s27 : PSig := ⟨0, [], [(0, .val .str), (4, .val (.int .i64)), (5, .val (.int .i64))]⟩
def s31 : PSig := ⟨0, [], [(0, .val .str), (4, .val (.int .i64)), (5, .val (.int .i64))]⟩
def fws : Nat → List (FuncId × FW) := fun _ => []
def ptL : List (Pt (TD [(.int .i32), (.int .i64)])) := [⟨0, s0, fun k (x : ByteArray × Int × Int × Int) => utf8_DecodeLastRuneInString.p0 k x.1 x.2.1 x.2.2.1 x.2.2.2⟩, ⟨27, s27, fun k (x : ByteArray × Int × Int) => utf8_DecodeLastRuneInString.p27 k x.1 x.2.1 x.2.2⟩, ⟨31, s31, fun k (x : ByteArray × Int × Int) => utf8_DecodeLastRuneInString.p31 k x.1 x.2.1 x.2.2⟩]
def fns : Nat → List (FuncId × FS) := fun k => [(50, ⟨[(.int .u8)], [.bool], fun (x : Int) => utf8_RuneStart.f k x⟩), (51, ⟨[.str], [(.int .i32), (.int .i64)], fun (x : ByteArray) => utf8_DecodeRuneInString.f k x⟩)]
def fgs : Nat → List (FuncId × FG) := fun _ => []
def fs (k : Nat) : FS := ⟨[.str], [(.int .i32), (.int .i64)], fun (x : ByteArray) => utf8_DecodeLastRuneInString.f k x⟩
theorem ok : FnOk Tryd.prog 26 51 Tryd.f26.results.toList (Tryd.f26.body.getD .skip) 1 := ⟨⟨Tryd.f26, by kernel_rfl, by kernel_rfl, by kernel_rfl, rfl, by kernel_rfl⟩, by kernel_rfl, by decide⟩
theorem c (k : Nat) : Contract Tryd.prog 26 (fs k) :=
  fn_sound (ps := [.str]) (rs := [(.int .i32), (.int .i64)]) (pts := ptL) (fns := fns) (fgs := fgs) (fws := fws) (tys := tyTab) (main := fun k (x : ByteArray) => utf8_DecodeLastRuneInString.f k x) ok mix tyOk ⟨⟨rfl, fun _ => rfl, fun k x => by kernel_rfl⟩, ⟨rfl, fun _ => rfl, fun k x => by kernel_rfl⟩, ⟨rfl, fun _ => rfl, fun k x => by kernel_rfl⟩, trivial⟩ (fun k x => by kernel_rfl) (fun k => ⟨⟨utf8_RuneStart.c k, utf8_DecodeRuneInString.c k, trivial⟩, trivial, trivial⟩) k
end utf8_DecodeLastRuneInString

namespace strings_LastIndexAny
def s15 : PSig := ⟨0, [], [(1, .val .str), (5, .val (.int .i32))]⟩
def s47 : PSig := ⟨0, [], [(0, .val .str), (9, .val (.int .i32))]⟩
def s8 : PSig := ⟨0, [], [(0, .val .str), (1, .val .str), (13, .val (.int .i64))]⟩
def s4 : PSig := ⟨0, [], [(0, .val .str), (9, .val (.int .i32)), (10, .val (.int .i64))]⟩
def fws : Nat → List (FuncId × FW) := fun _ => []
def ptL : List (Pt (TD [(.int .i64)])) := [⟨15, s15, fun k (x : ByteArray × Int) => strings_LastIndexAny.p15 k x.1 x.2⟩, ⟨47, s47, fun k (x : ByteArray × Int) => strings_LastIndexAny.p47 k x.1 x.2⟩, ⟨8, s8, fun k (x : ByteArray × ByteArray × Int) => strings_LastIndexAny.p8 k x.1 x.2.1 x.2.2⟩, ⟨4, s4, fun k (x : ByteArray × Int × Int) => strings_LastIndexAny.p4 k x.1 x.2.1 x.2.2⟩]
def fns : Nat → List (FuncId × FS) := fun k => [(22, ⟨[.str, (.int .i32)], [(.int .i64)], fun (x : ByteArray × Int) => strings_IndexRune.f k x.1 x.2⟩), (23, ⟨[(.int .i64)], [.bool], fun (x : Int) => strings_shouldUseASCIISet.f k x⟩), (26, ⟨[.str], [(.int .i32), (.int .i64)], fun (x : ByteArray) => utf8_DecodeLastRuneInString.f k x⟩)]
def fgs : Nat → List (FuncId × FG) := fun _ => []
def fs (k : Nat) : FS := ⟨[.str, .str], [(.int .i64)], fun (x : ByteArray × ByteArray) => strings_LastIndexAny.f k x.1 x.2⟩
theorem ok : FnOk Tryd.prog 12 96 Tryd.f12.results.toList (Tryd.f12.body.getD .skip) 2 := ⟨⟨Tryd.f12, by kernel_rfl, by kernel_rfl, by kernel_rfl, rfl, by kernel_rfl⟩, by kernel_rfl, by decide⟩
theorem c (k : Nat) : Contract Tryd.prog 12 (fs k) :=
  fn_sound (ps := [.str, .str]) (rs := [(.int .i64)]) (pts := ptL) (fns := fns) (fgs := fgs) (fws := fws) (tys := tyTab) (main := fun k (x : ByteArray × ByteArray) => strings_LastIndexAny.f k x.1 x.2) ok mix tyOk ⟨⟨rfl, fun _ => rfl, fun k x => by kernel_rfl⟩, ⟨rfl, fun _ => rfl, fun k x => by kernel_rfl⟩, ⟨rfl, fun _ => rfl, fun k x => by kernel_rfl⟩, ⟨rfl, fun _ => rfl, fun k x => by kernel_rfl⟩, trivial⟩ (fun k x => by kernel_rfl) (fun k => ⟨⟨strings_IndexRune.c k, strings_shouldUseASCIISet.c k, utf8_DecodeLastRuneInString.c k, trivial⟩, trivial, trivial⟩) k
end strings_LastIndexAny

namespace strings_LastIndexAny_h
theorem c (k : Nat) : Contract Tryd.prog 12 ⟨[.str, .str], [.int .i64], fun (x : ByteArray × ByteArray) => strings_LastIndexAny_h.f k x.1 x.2⟩ := last_contract (strings_LastIndexAny.c k)
end strings_LastIndexAny_h

namespace stringslite_HasPrefix
def fws : Nat → List (FuncId × FW) := fun _ => []
def ptL : List (Pt (TD [.bool])) := []
def fns : Nat → List (FuncId × FS) := fun _ => []
def fgs : Nat → List (FuncId × FG) := fun _ => []
def fs (k : Nat) : FS := ⟨[.str, .str], [.bool], fun (x : ByteArray × ByteArray) => stringslite_HasPrefix.f k x.1 x.2⟩
theorem ok : FnOk Tryd.prog 52 18 Tryd.f52.results.toList (Tryd.f52.body.getD .skip) 2 := ⟨⟨Tryd.f52, by kernel_rfl, by kernel_rfl, by kernel_rfl, rfl, by kernel_rfl⟩, by kernel_rfl, by decide⟩
theorem c (k : Nat) : Contract Tryd.prog 52 (fs k) :=
  fn_sound (ps := [.str, .str]) (rs := [.bool]) (pts := ptL) (fns := fns) (fgs := fgs) (fws := fws) (tys := tyTab) (main := fun k (x : ByteArray × ByteArray) => stringslite_HasPrefix.f k x.1 x.2) ok mix tyOk trivial (fun k x => by kernel_rfl) (fun _ => ⟨trivial, trivial, trivial⟩) k
end stringslite_HasPrefix

namespace stringslite_TrimPrefix
def fws : Nat → List (FuncId × FW) := fun _ => []
def ptL : List (Pt (TD [.str])) := []
def fns : Nat → List (FuncId × FS) := fun k => [(52, ⟨[.str, .str], [.bool], fun (x : ByteArray × ByteArray) => stringslite_HasPrefix.f k x.1 x.2⟩)]
def fgs : Nat → List (FuncId × FG) := fun _ => []
def fs (k : Nat) : FS := ⟨[.str, .str], [.str], fun (x : ByteArray × ByteArray) => stringslite_TrimPrefix.f k x.1 x.2⟩
theorem ok : FnOk Tryd.prog 27 13 Tryd.f27.results.toList (Tryd.f27.body.getD .skip) 2 := ⟨⟨Tryd.f27, by kernel_rfl, by kernel_rfl, by kernel_rfl, rfl, by kernel_rfl⟩, by kernel_rfl, by decide⟩
theorem c (k : Nat) : Contract Tryd.prog 27 (fs k) :=
  fn_sound (ps := [.str, .str]) (rs := [.str]) (pts := ptL) (fns := fns) (fgs := fgs) (fws := fws) (tys := tyTab) (main := fun k (x : ByteArray × ByteArray) => stringslite_TrimPrefix.f k x.1 x.2) ok mix tyOk trivial (fun k x => by kernel_rfl) (fun k => ⟨⟨stringslite_HasPrefix.c k, trivial⟩, trivial, trivial⟩) k
end stringslite_TrimPrefix

namespace strings_TrimPrefix
def fws : Nat → List (FuncId × FW) := fun _ => []
def ptL : List (Pt (TD [.str])) := []
def fns : Nat → List (FuncId × FS) := fun k => [(27, ⟨[.str, .str], [.str], fun (x : ByteArray × ByteArray) => stringslite_TrimPrefix.f k x.1 x.2⟩)]
def fgs : Nat → List (FuncId × FG) := fun _ => []
def fs (k : Nat) : FS := ⟨[.str, .str], [.str], fun (x : ByteArray × ByteArray) => strings_TrimPrefix.f k x.1 x.2⟩
theorem ok : FnOk Tryd.prog 13 8 Tryd.f13.results.toList (Tryd.f13.body.getD .skip) 2 := ⟨⟨Tryd.f13, by kernel_rfl, by kernel_rfl, by kernel_rfl, rfl, by kernel_rfl⟩, by kernel_rfl, by decide⟩
theorem c (k : Nat) : Contract Tryd.prog 13 (fs k) :=
  fn_sound (ps := [.str, .str]) (rs := [.str]) (pts := ptL) (fns := fns) (fgs := fgs) (fws := fws) (tys := tyTab) (main := fun k (x : ByteArray × ByteArray) => strings_TrimPrefix.f k x.1 x.2) ok mix tyOk trivial (fun k x => by kernel_rfl) (fun k => ⟨⟨stringslite_TrimPrefix.c k, trivial⟩, trivial, trivial⟩) k
end strings_TrimPrefix

namespace stringslite_CutPrefix
def fws : Nat → List (FuncId × FW) := fun _ => []
def ptL : List (Pt (TD [.str, .bool])) := []
def fns : Nat → List (FuncId × FS) := fun k => [(52, ⟨[.str, .str], [.bool], fun (x : ByteArray × ByteArray) => stringslite_HasPrefix.f k x.1 x.2⟩)]
def fgs : Nat → List (FuncId × FG) := fun _ => []
def fs (k : Nat) : FS := ⟨[.str, .str], [.str, .bool], fun (x : ByteArray × ByteArray) => stringslite_CutPrefix.f k x.1 x.2⟩
theorem ok : FnOk Tryd.prog 53 15 Tryd.f53.results.toList (Tryd.f53.body.getD .skip) 2 := ⟨⟨Tryd.f53, by kernel_rfl, by kernel_rfl, by kernel_rfl, rfl, by kernel_rfl⟩, by kernel_rfl, by decide⟩
theorem c (k : Nat) : Contract Tryd.prog 53 (fs k) :=
  fn_sound (ps := [.str, .str]) (rs := [.str, .bool]) (pts := ptL) (fns := fns) (fgs := fgs) (fws := fws) (tys := tyTab) (main := fun k (x : ByteArray × ByteArray) => stringslite_CutPrefix.f k x.1 x.2) ok mix tyOk trivial (fun k x => by kernel_rfl) (fun k => ⟨⟨stringslite_HasPrefix.c k, trivial⟩, trivial, trivial⟩) k
end stringslite_CutPrefix

namespace strings_CutPrefix
def fws : Nat → List (FuncId × FW) := fun _ => []
def ptL : List (Pt (TD [.str, .bool])) := []
def fns : Nat → List (FuncId × FS) := fun k => [(53, ⟨[.str, .str], [.str, .bool], fun (x : ByteArray × ByteArray) => stringslite_CutPrefix.f k x.1 x.2⟩)]
def fgs : Nat → List (FuncId × FG) := fun _ => []
def fs (k : Nat) : FS := ⟨[.str, .str], [.str, .bool], fun (x : ByteArray × ByteArray) => strings_CutPrefix.f k x.1 x.2⟩
theorem ok : FnOk Tryd.prog 28 11 Tryd.f28.results.toList (Tryd.f28.body.getD .skip) 2 := ⟨⟨Tryd.f28, by kernel_rfl, by kernel_rfl, by kernel_rfl, rfl, by kernel_rfl⟩, by kernel_rfl, by decide⟩
theorem c (k : Nat) : Contract Tryd.prog 28 (fs k) :=
  fn_sound (ps := [.str, .str]) (rs := [.str, .bool]) (pts := ptL) (fns := fns) (fgs := fgs) (fws := fws) (tys := tyTab) (main := fun k (x : ByteArray × ByteArray) => strings_CutPrefix.f k x.1 x.2) ok mix tyOk trivial (fun k x => by kernel_rfl) (fun k => ⟨⟨stringslite_CutPrefix.c k, trivial⟩, trivial, trivial⟩) k
end strings_CutPrefix

namespace bytealg_hashStr_string_
def s0 : PSig := ⟨0, [], [(0, .val .str), (4, .val (.int .u32)), (5, .val (.int .i64))]⟩
def s4 : PSig := ⟨0, [], [(4, .val (.int .u32)), (6, .val (.int .u32)), (7, .val (.int .u32)), (8, .val (.int .i64))]⟩
def s25 : PSig := ⟨0, [], [(4, .val (.int .u32)), (6, .val (.int .u32)), (7, .val (.int .u32)), (8, .val (.int .i64))]⟩
def fws : Nat → List (FuncId × FW) := fun _ => []
def ptL : List (Pt (TD [(.int .u32), (.int .u32)])) := [⟨0, s0, fun k (x : ByteArray × Int × Int) => bytealg_hashStr_string_.p0 k x.1 x.2.1 x.2.2⟩, ⟨4, s4, fun k (x : Int × Int × Int × Int) => bytealg_hashStr_string_.p4 k x.1 x.2.1 x.2.2.1 x.2.2.2⟩, ⟨25, s25, fun k (x : Int × Int × Int × Int) => bytealg_hashStr_string_.p25 k x.1 x.2.1 x.2.2.1 x.2.2.2⟩]
def fns : Nat → List (FuncId × FS) := fun _ => []
def fgs : Nat → List (FuncId × FG) := fun _ => []
def fs (k : Nat) : FS := ⟨[.str], [(.int .u32), (.int .u32)], fun (x : ByteArray) => bytealg_hashStr_string_.f k x⟩
theorem ok : FnOk Tryd.prog 95 39 Tryd.f95.results.toList (Tryd.f95.body.getD .skip) 1 := ⟨⟨Tryd.f95, by kernel_rfl, by kernel_rfl, by kernel_rfl, rfl, by kernel_rfl⟩, by kernel_rfl, by decide⟩
theorem c (k : Nat) : Contract Tryd.prog 95 (fs k) :=
  fn_sound (ps := [.str]) (rs := [(.int .u32), (.int .u32)]) (pts := ptL) (fns := fns) (fgs := fgs) (fws := fws) (tys := tyTab) (main := fun k (x : ByteArray) => bytealg_hashStr_string_.f k x) ok mix tyOk ⟨⟨rfl, fun _ => rfl, fun k x => by kernel_rfl⟩, ⟨rfl, fun _ => rfl, fun k x => by kernel_rfl⟩, ⟨rfl, fun _ => rfl, fun k x => by kernel_rfl⟩, trivial⟩ (fun k x => by kernel_rfl) (fun _ => ⟨trivial, trivial, trivial⟩) k
end bytealg_hashStr_string_

namespace bytealg_IndexRabinKarp_string_
def s0 : PSig := ⟨0, [], [(0, .val .str), (1, .val .str), (5, .val (.int .u32)), (6, .val (.int .u32)), (7, .val (.int .i64)), (8, .val (.int .u32)), (9, .val (.int .i64))]⟩
def s21 : PSig := ⟨0, [], [(0, .val .str), (1, .val .str), (5, .val (.int .u32)), (6, .val (.int .u32)), (7, .val (.int .i64)), (8, .val (.int .u32))]⟩
def s4 : PSig := ⟨0, [], [(0, .val .str), (1, .val .str), (5, .val (.int .u32)), (6, .val (.int .u32)), (7, .val (.int .i64)), (8, .val (.int .u32)), (10, .val (.int .i64))]⟩
def fws : Nat → List (FuncId × FW) := fun _ => []
def ptL : List (Pt (TD [(.int .i64)])) := [⟨0, s0, fun k (x : ByteArray × ByteArray × Int × Int × Int × Int × Int) => bytealg_IndexRabinKarp_string_.p0 k x.1 x.2.1 x.2.2.1 x.2.2.2.1 x.2.2.2.2.1 x.2.2.2.2.2.1 x.2.2.2.2.2.2⟩, ⟨21, s21, fun k (x : ByteArray × ByteArray × Int × Int × Int × Int) => bytealg_IndexRabinKarp_string_.p21 k x.1 x.2.1 x.2.2.1 x.2.2.2.1 x.2.2.2.2.1 x.2.2.2.2.2⟩, ⟨4, s4, fun k (x : ByteArray × ByteArray × Int × Int × Int × Int × Int) => bytealg_IndexRabinKarp_string_.p4 k x.1 x.2.1 x.2.2.1 x.2.2.2.1 x.2.2.2.2.1 x.2.2.2.2.2.1 x.2.2.2.2.2.2⟩]
def fns : Nat → List (FuncId × FS) := fun k => [(95, ⟨[.str], [(.int .u32), (.int .u32)], fun (x : ByteArray) => bytealg_hashStr_string_.f k x⟩)]
def fgs : Nat → List (FuncId × FG) := fun _ => []
def fs (k : Nat) : FS := ⟨[.str, .str], [(.int .i64)], fun (x : ByteArray × ByteArray) => bytealg_IndexRabinKarp_string_.f k x.1 x.2⟩
theorem ok : FnOk Tryd.prog 88 81 Tryd.f88.results.toList (Tryd.f88.body.getD .skip) 2 := ⟨⟨Tryd.f88, by kernel_rfl, by kernel_rfl, by kernel_rfl, rfl, by kernel_rfl⟩, by kernel_rfl, by decide⟩
theorem c (k : Nat) : Contract Tryd.prog 88 (fs k) :=
  fn_sound (ps := [.str, .str]) (rs := [(.int .i64)]) (pts := ptL) (fns := fns) (fgs := fgs) (fws := fws) (tys := tyTab) (main := fun k (x : ByteArray × ByteArray) => bytealg_IndexRabinKarp_string_.f k x.1 x.2) ok mix tyOk ⟨⟨rfl, fun _ => rfl, fun k x => by kernel_rfl⟩, ⟨rfl, fun _ => rfl, fun k x => by kernel_rfl⟩, ⟨rfl, fun _ => rfl, fun k x => by kernel_rfl⟩, trivial⟩ (fun k x => by kernel_rfl) (fun k => ⟨⟨bytealg_hashStr_string_.c k, trivial⟩, trivial, trivial⟩) k
end bytealg_IndexRabinKarp_string_

namespace stringslite_Index
def s7 : PSig := ⟨0, [], []⟩
def fws : Nat → List (FuncId × FW) := fun _ => []
def ptL : List (Pt (TD [(.int .i64)])) := [⟨7, s7, fun k (x : Unit) => stringslite_Index.p7 k x⟩]
def fns : Nat → List (FuncId × FS) := fun k => [(75, ⟨[.str, (.int .u8)], [(.int .i64)], fun (x : ByteArray × Int) => stringslite_IndexByte.f k x.1 x.2⟩)]
def fgs : Nat → List (FuncId × FG) := fun _ => []
def fs (k : Nat) : FS := ⟨[.str, .str], [(.int .i64)], fun (x : ByteArray × ByteArray) => stringslite_Index.f k x.1 x.2⟩
theorem ok : FnOk Tryd.prog 77 143 Tryd.f77.results.toList (Tryd.f77.body.getD .skip) 2 := ⟨⟨Tryd.f77, by kernel_rfl, by kernel_rfl, by kernel_rfl, rfl, by kernel_rfl⟩, by kernel_rfl, by decide⟩
theorem c (k : Nat) : Contract Tryd.prog 77 (fs k) :=
  fn_sound (ps := [.str, .str]) (rs := [(.int .i64)]) (pts := ptL) (fns := fns) (fgs := fgs) (fws := fws) (tys := tyTab) (main := fun k (x : ByteArray × ByteArray) => stringslite_Index.f k x.1 x.2) ok mix tyOk ⟨⟨rfl, fun _ => rfl, fun k x => by kernel_rfl⟩, trivial⟩ (fun k x => by kernel_rfl) (fun k => ⟨⟨stringslite_IndexByte.c k, trivial⟩, trivial, trivial⟩) k
end stringslite_Index

namespace stringslite_Cut
def fws : Nat → List (FuncId × FW) := fun _ => []
def ptL : List (Pt (TD [.str, .str, .bool])) := []
def fns : Nat → List (FuncId × FS) := fun k => [(77, ⟨[.str, .str], [(.int .i64)], fun (x : ByteArray × ByteArray) => stringslite_Index.f k x.1 x.2⟩)]
def fgs : Nat → List (FuncId × FG) := fun _ => []
def fs (k : Nat) : FS := ⟨[.str, .str], [.str, .str, .bool], fun (x : ByteArray × ByteArray) => stringslite_Cut.f k x.1 x.2⟩
theorem ok : FnOk Tryd.prog 54 23 Tryd.f54.results.toList (Tryd.f54.body.getD .skip) 2 := ⟨⟨Tryd.f54, by kernel_rfl, by kernel_rfl, by kernel_rfl, rfl, by kernel_rfl⟩, by kernel_rfl, by decide⟩
theorem c (k : Nat) : Contract Tryd.prog 54 (fs k) :=
  fn_sound (ps := [.str, .str]) (rs := [.str, .str, .bool]) (pts := ptL) (fns := fns) (fgs := fgs) (fws := fws) (tys := tyTab) (main := fun k (x : ByteArray × ByteArray) => stringslite_Cut.f k x.1 x.2) ok mix tyOk trivial (fun k x => by kernel_rfl) (fun k => ⟨⟨stringslite_Index.c k, trivial⟩, trivial, trivial⟩) k
end stringslite_Cut

namespace strings_Cut
def fws : Nat → List (FuncId × FW) := fun _ => []
def ptL : List (Pt (TD [.str, .str, .bool])) := []
def fns : Nat → List (FuncId × FS) := fun k => [(54, ⟨[.str, .str], [.str, .str, .bool], fun (x : ByteArray × ByteArray) => stringslite_Cut.f k x.1 x.2⟩)]
def fgs : Nat → List (FuncId × FG) := fun _ => []
def fs (k : Nat) : FS := ⟨[.str, .str], [.str, .str, .bool], fun (x : ByteArray × ByteArray) => strings_Cut.f k x.1 x.2⟩
theorem ok : FnOk Tryd.prog 29 13 Tryd.f29.results.toList (Tryd.f29.body.getD .skip) 2 := ⟨⟨Tryd.f29, by kernel_rfl, by kernel_rfl, by kernel_rfl, rfl, by kernel_rfl⟩, by kernel_rfl, by decide⟩
theorem c (k : Nat) : Contract Tryd.prog 29 (fs k) :=
  fn_sound (ps := [.str, .str]) (rs := [.str, .str, .bool]) (pts := ptL) (fns := fns) (fgs := fgs) (fws := fws) (tys := tyTab) (main := fun k (x : ByteArray × ByteArray) => strings_Cut.f k x.1 x.2) ok mix tyOk trivial (fun k x => by kernel_rfl) (fun k => ⟨⟨stringslite_Cut.c k, trivial⟩, trivial, trivial⟩) k
end strings_Cut

namespace nat_Parse
def s5 : PSig := ⟨0, [], []⟩
def s9 : PSig := ⟨0, [], []⟩
def s11 : PSig := ⟨0, [], [(0, .val .str), (1, .val (.int .i64))]⟩
def s0 : PSig := ⟨0, [(66, (.int .u32), false)], [(0, .val .str), (1, .val (.int .i64)), (6, .own 0), (31, .val (.int .i64)), (32, .val (.int .i64))]⟩
def s23 : PSig := ⟨0, [], []⟩
def s4 : PSig := ⟨0, [(66, (.int .u32), false)], [(0, .val .str), (1, .val (.int .i64)), (6, .own 0), (9, .val (.int .u64)), (31, .val (.int .i64)), (32, .val (.int .i64)), (59, .val (.int .i64)), (60, .val (.int .i64))]⟩
def s45 : PSig := ⟨0, [(66, (.int .u32), false)], [(0, .val .str), (1, .val (.int .i64)), (6, .own 0), (31, .val (.int .i64)), (32, .val (.int .i64))]⟩
def fws : Nat → List (FuncId × FW) := fun _ => []
def ptL : List (Pt (TD [(.list (.int .u32)), (.int .i64)])) := [⟨5, s5, fun k (x : Unit) => nat_Parse.p5 k x⟩, ⟨9, s9, fun k (x : Unit) => nat_Parse.p9 k x⟩, ⟨11, s11, fun k (x : ByteArray × Int) => nat_Parse.p11 k x.1 x.2⟩, ⟨0, s0, fun k (x : (List Int) × ByteArray × Int × Int × Int) => nat_Parse.p0 k x.1 x.2.1 x.2.2.1 x.2.2.2.1 x.2.2.2.2⟩, ⟨23, s23, fun k (x : Unit) => nat_Parse.p23 k x⟩, ⟨4, s4, fun k (x : (List Int) × ByteArray × Int × Int × Int × Int × Int × Int) => nat_Parse.p4 k x.1 x.2.1 x.2.2.1 x.2.2.2.1 x.2.2.2.2.1 x.2.2.2.2.2.1 x.2.2.2.2.2.2.1 x.2.2.2.2.2.2.2⟩, ⟨45, s45, fun k (x : (List Int) × ByteArray × Int × Int × Int) => nat_Parse.p45 k x.1 x.2.1 x.2.2.1 x.2.2.2.1 x.2.2.2.2⟩]
def fns : Nat → List (FuncId × FS) := fun k => [(55, ⟨[(.list (.int .u32))], [(.list (.int .u32))], fun (x : (List Int)) => nat_own.f k x⟩)]
def fgs : Nat → List (FuncId × FG) := fun _ => []
def fs (k : Nat) : FS := ⟨[.str, (.int .i64)], [(.list (.int .u32)), (.int .i64)], fun (x : ByteArray × Int) => nat_Parse.f k x.1 x.2⟩
theorem ok : FnOk Tryd.prog 30 91 Tryd.f30.results.toList (Tryd.f30.body.getD .skip) 2 := ⟨⟨Tryd.f30, by kernel_rfl, by kernel_rfl, by kernel_rfl, rfl, by kernel_rfl⟩, by kernel_rfl, by decide⟩
theorem c (k : Nat) : Contract Tryd.prog 30 (fs k) :=
  fn_sound (ps := [.str, (.int .i64)]) (rs := [(.list (.int .u32)), (.int .i64)]) (pts := ptL) (fns := fns) (fgs := fgs) (fws := fws) (tys := tyTab) (main := fun k (x : ByteArray × Int) => nat_Parse.f k x.1 x.2) ok mix tyOk ⟨⟨rfl, fun _ => rfl, fun k x => by kernel_rfl⟩, ⟨rfl, fun _ => rfl, fun k x => by kernel_rfl⟩, ⟨rfl, fun _ => rfl, fun k x => by kernel_rfl⟩, ⟨rfl, fun _ => rfl, fun k x => by kernel_rfl⟩, ⟨rfl, fun _ => rfl, fun k x => by kernel_rfl⟩, ⟨rfl, fun _ => rfl, fun k x => by kernel_rfl⟩, ⟨rfl, fun _ => rfl, fun k x => by kernel_rfl⟩, trivial⟩ (fun k x => by kernel_rfl) (fun k => ⟨⟨nat_own.c k, trivial⟩, trivial, trivial⟩) k
end nat_Parse

namespace strings_trimLeftByte
def s0 : PSig := ⟨0, [], [(0, .val .str), (1, .val (.int .u8))]⟩
def s7 : PSig := ⟨0, [], [(0, .val .str)]⟩
def fws : Nat → List (FuncId × FW) := fun _ => []
def ptL : List (Pt (TD [.str])) := [⟨0, s0, fun k (x : ByteArray × Int) => strings_trimLeftByte.p0 k x.1 x.2⟩, ⟨7, s7, fun k (x : ByteArray) => strings_trimLeftByte.p7 k x⟩]
def fns : Nat → List (FuncId × FS) := fun _ => []
def fgs : Nat → List (FuncId × FG) := fun _ => []
def fs (k : Nat) : FS := ⟨[.str, (.int .u8)], [.str], fun (x : ByteArray × Int) => strings_trimLeftByte.f k x.1 x.2⟩
theorem ok : FnOk Tryd.prog 59 17 Tryd.f59.results.toList (Tryd.f59.body.getD .skip) 2 := ⟨⟨Tryd.f59, by kernel_rfl, by kernel_rfl, by kernel_rfl, rfl, by kernel_rfl⟩, by kernel_rfl, by decide⟩
theorem c (k : Nat) : Contract Tryd.prog 59 (fs k) :=
  fn_sound (ps := [.str, (.int .u8)]) (rs := [.str]) (pts := ptL) (fns := fns) (fgs := fgs) (fws := fws) (tys := tyTab) (main := fun k (x : ByteArray × Int) => strings_trimLeftByte.f k x.1 x.2) ok mix tyOk ⟨⟨rfl, fun _ => rfl, fun k x => by kernel_rfl⟩, ⟨rfl, fun _ => rfl, fun k x => by kernel_rfl⟩, trivial⟩ (fun k x => by kernel_rfl) (fun _ => ⟨trivial, trivial, trivial⟩) k
end strings_trimLeftByte

namespace strings_ContainsRune
def fws : Nat → List (FuncId × FW) := fun _ => []
def ptL : List (Pt (TD [.bool])) := []
def fns : Nat → List (FuncId × FS) := fun k => [(22, ⟨[.str, (.int .i32)], [(.int .i64)], fun (x : ByteArray × Int) => strings_IndexRune.f k x.1 x.2⟩)]
def fgs : Nat → List (FuncId × FG) := fun _ => []
def fs (k : Nat) : FS := ⟨[.str, (.int .i32)], [.bool], fun (x : ByteArray × Int) => strings_ContainsRune.f k x.1 x.2⟩
theorem ok : FnOk Tryd.prog 81 9 Tryd.f81.results.toList (Tryd.f81.body.getD .skip) 2 := ⟨⟨Tryd.f81, by kernel_rfl, by kernel_rfl, by kernel_rfl, rfl, by kernel_rfl⟩, by kernel_rfl, by decide⟩
theorem c (k : Nat) : Contract Tryd.prog 81 (fs k) :=
  fn_sound (ps := [.str, (.int .i32)]) (rs := [.bool]) (pts := ptL) (fns := fns) (fgs := fgs) (fws := fws) (tys := tyTab) (main := fun k (x : ByteArray × Int) => strings_ContainsRune.f k x.1 x.2) ok mix tyOk trivial (fun k x => by kernel_rfl) (fun k => ⟨⟨strings_IndexRune.c k, trivial⟩, trivial, trivial⟩) k
end strings_ContainsRune

namespace strings_trimLeftUnicode
def s0 : PSig := ⟨0, [], [(0, .val .str), (1, .val .str)]⟩
def s11 : PSig := ⟨0, [], [(0, .val .str)]⟩
def fws : Nat → List (FuncId × FW) := fun _ => []
def ptL : List (Pt (TD [.str])) := [⟨0, s0, fun k (x : ByteArray × ByteArray) => strings_trimLeftUnicode.p0 k x.1 x.2⟩, ⟨11, s11, fun k (x : ByteArray) => strings_trimLeftUnicode.p11 k x⟩]
def fns : Nat → List (FuncId × FS) := fun k => [(51, ⟨[.str], [(.int .i32), (.int .i64)], fun (x : ByteArray) => utf8_DecodeRuneInString.f k x⟩), (81, ⟨[.str, (.int .i32)], [.bool], fun (x : ByteArray × Int) => strings_ContainsRune.f k x.1 x.2⟩)]
def fgs : Nat → List (FuncId × FG) := fun _ => []
def fs (k : Nat) : FS := ⟨[.str, .str], [.str], fun (x : ByteArray × ByteArray) => strings_trimLeftUnicode.f k x.1 x.2⟩
theorem ok : FnOk Tryd.prog 61 23 Tryd.f61.results.toList (Tryd.f61.body.getD .skip) 2 := ⟨⟨Tryd.f61, by kernel_rfl, by kernel_rfl, by kernel_rfl, rfl, by kernel_rfl⟩, by kernel_rfl, by decide⟩
theorem c (k : Nat) : Contract Tryd.prog 61 (fs k) :=
  fn_sound (ps := [.str, .str]) (rs := [.str]) (pts := ptL) (fns := fns) (fgs := fgs) (fws := fws) (tys := tyTab) (main := fun k (x : ByteArray × ByteArray) => strings_trimLeftUnicode.f k x.1 x.2) ok mix tyOk ⟨⟨rfl, fun _ => rfl, fun k x => by kernel_rfl⟩, ⟨rfl, fun _ => rfl, fun k x => by kernel_rfl⟩, trivial⟩ (fun k x => by kernel_rfl) (fun k => ⟨⟨utf8_DecodeRuneInString.c k, strings_ContainsRune.c k, trivial⟩, trivial, trivial⟩) k
end strings_trimLeftUnicode

namespace strings_TrimLeft
def s5 : PSig := ⟨0, [], [(0, .val .str)]⟩
def s11 : PSig := ⟨0, [], [(0, .val .str), (1, .val .str)]⟩
def fws : Nat → List (FuncId × FW) := fun _ => []
def ptL : List (Pt (TD [.str])) := [⟨5, s5, fun k (x : ByteArray) => strings_TrimLeft.p5 k x⟩, ⟨11, s11, fun k (x : ByteArray × ByteArray) => strings_TrimLeft.p11 k x.1 x.2⟩]
def fns : Nat → List (FuncId × FS) := fun k => [(59, ⟨[.str, (.int .u8)], [.str], fun (x : ByteArray × Int) => strings_trimLeftByte.f k x.1 x.2⟩)]
def fgs : Nat → List (FuncId × FG) := fun _ => []
def fs (k : Nat) : FS := ⟨[.str, .str], [.str], fun (x : ByteArray × ByteArray) => strings_TrimLeft.f k x.1 x.2⟩
theorem ok : FnOk Tryd.prog 32 37 Tryd.f32.results.toList (Tryd.f32.body.getD .skip) 2 := ⟨⟨Tryd.f32, by kernel_rfl, by kernel_rfl, by kernel_rfl, rfl, by kernel_rfl⟩, by kernel_rfl, by decide⟩
theorem c (k : Nat) : Contract Tryd.prog 32 (fs k) :=
  fn_sound (ps := [.str, .str]) (rs := [.str]) (pts := ptL) (fns := fns) (fgs := fgs) (fws := fws) (tys := tyTab) (main := fun k (x : ByteArray × ByteArray) => strings_TrimLeft.f k x.1 x.2) ok mix tyOk ⟨⟨rfl, fun _ => rfl, fun k x => by kernel_rfl⟩, ⟨rfl, fun _ => rfl, fun k x => by kernel_rfl⟩, trivial⟩ (fun k x => by kernel_rfl) (fun k => ⟨⟨strings_trimLeftByte.c k, trivial⟩, trivial, trivial⟩) k
end strings_TrimLeft

namespace nat_Mul
def s0 : PSig := ⟨0, [(66, (.int .u32), false)], [(0, .val (.list (.int .u32))), (1, .val (.list (.int .u32))), (5, .own 0), (21, .val (.int .i64)), (22, .val (.int .i64))]⟩
def s4 : PSig := ⟨0, [(66, (.int .u32), false)], [(0, .val (.list (.int .u32))), (1, .val (.list (.int .u32))), (5, .own 0), (6, .val (.int .i64)), (7, .val (.int .u64)), (21, .val (.int .i64)), (22, .val (.int .i64)), (26, .val (.int .i64)), (27, .val (.int .i64))]⟩
def fws : Nat → List (FuncId × FW) := fun _ => []
def ptL : List (Pt (TD [(.list (.int .u32))])) := [⟨0, s0, fun k (x : (List Int) × (List Int) × (List Int) × Int × Int) => nat_Mul.p0 k x.1 x.2.1 x.2.2.1 x.2.2.2.1 x.2.2.2.2⟩, ⟨4, s4, fun k (x : (List Int) × (List Int) × (List Int) × Int × Int × Int × Int × Int × Int) => nat_Mul.p4 k x.1 x.2.1 x.2.2.1 x.2.2.2.1 x.2.2.2.2.1 x.2.2.2.2.2.1 x.2.2.2.2.2.2.1 x.2.2.2.2.2.2.2.1 x.2.2.2.2.2.2.2.2⟩]
def fns : Nat → List (FuncId × FS) := fun k => [(64, ⟨[(.list (.int .u32))], [(.list (.int .u32))], fun (x : (List Int)) => nat_trim.f k x⟩), (55, ⟨[(.list (.int .u32))], [(.list (.int .u32))], fun (x : (List Int)) => nat_own.f k x⟩)]
def fgs : Nat → List (FuncId × FG) := fun _ => []
def fs (k : Nat) : FS := ⟨[(.list (.int .u32)), (.list (.int .u32))], [(.list (.int .u32))], fun (x : (List Int) × (List Int)) => nat_Mul.f k x.1 x.2⟩
theorem ok : FnOk Tryd.prog 35 72 Tryd.f35.results.toList (Tryd.f35.body.getD .skip) 2 := ⟨⟨Tryd.f35, by kernel_rfl, by kernel_rfl, by kernel_rfl, rfl, by kernel_rfl⟩, by kernel_rfl, by decide⟩
theorem c (k : Nat) : Contract Tryd.prog 35 (fs k) :=
  fn_sound (ps := [(.list (.int .u32)), (.list (.int .u32))]) (rs := [(.list (.int .u32))]) (pts := ptL) (fns := fns) (fgs := fgs) (fws := fws) (tys := tyTab) (main := fun k (x : (List Int) × (List Int)) => nat_Mul.f k x.1 x.2) ok mix tyOk ⟨⟨rfl, fun _ => rfl, fun k x => by kernel_rfl⟩, ⟨rfl, fun _ => rfl, fun k x => by kernel_rfl⟩, trivial⟩ (fun k x => by kernel_rfl) (fun k => ⟨⟨nat_trim.c k, nat_own.c k, trivial⟩, trivial, trivial⟩) k
end nat_Mul

namespace nat_Pow
def s5 : PSig := ⟨0, [], []⟩
def s0 : PSig := ⟨0, [], [(1, .val (.int .i64)), (6, .val (.list (.int .u32))), (7, .val (.list (.int .u32)))]⟩
def s19 : PSig := ⟨0, [], [(1, .val (.int .i64)), (6, .val (.list (.int .u32))), (7, .val (.list (.int .u32)))]⟩
def s13 : PSig := ⟨0, [], [(1, .val (.int .i64)), (6, .val (.list (.int .u32))), (7, .val (.list (.int .u32)))]⟩
def fws : Nat → List (FuncId × FW) := fun _ => []
def ptL : List (Pt (TD [(.list (.int .u32)), (.int .i64)])) := [⟨5, s5, fun k (x : Unit) => nat_Pow.p5 k x⟩, ⟨0, s0, fun k (x : Int × (List Int) × (List Int)) => nat_Pow.p0 k x.1 x.2.1 x.2.2⟩, ⟨19, s19, fun k (x : Int × (List Int) × (List Int)) => nat_Pow.p19 k x.1 x.2.1 x.2.2⟩, ⟨13, s13, fun k (x : Int × (List Int) × (List Int)) => nat_Pow.p13 k x.1 x.2.1 x.2.2⟩]
def fns : Nat → List (FuncId × FS) := fun k => [(55, ⟨[(.list (.int .u32))], [(.list (.int .u32))], fun (x : (List Int)) => nat_own.f k x⟩), (35, ⟨[(.list (.int .u32)), (.list (.int .u32))], [(.list (.int .u32))], fun (x : (List Int) × (List Int)) => nat_Mul.f k x.1 x.2⟩)]
def fgs : Nat → List (FuncId × FG) := fun _ => []
def fs (k : Nat) : FS := ⟨[(.list (.int .u32)), (.int .i64)], [(.list (.int .u32)), (.int .i64)], fun (x : (List Int) × Int) => nat_Pow.f k x.1 x.2⟩
theorem ok : FnOk Tryd.prog 62 33 Tryd.f62.results.toList (Tryd.f62.body.getD .skip) 2 := ⟨⟨Tryd.f62, by kernel_rfl, by kernel_rfl, by kernel_rfl, rfl, by kernel_rfl⟩, by kernel_rfl, by decide⟩
theorem c (k : Nat) : Contract Tryd.prog 62 (fs k) :=
  fn_sound (ps := [(.list (.int .u32)), (.int .i64)]) (rs := [(.list (.int .u32)), (.int .i64)]) (pts := ptL) (fns := fns) (fgs := fgs) (fws := fws) (tys := tyTab) (main := fun k (x : (List Int) × Int) => nat_Pow.f k x.1 x.2) ok mix tyOk ⟨⟨rfl, fun _ => rfl, fun k x => by kernel_rfl⟩, ⟨rfl, fun _ => rfl, fun k x => by kernel_rfl⟩, ⟨rfl, fun _ => rfl, fun k x => by kernel_rfl⟩, ⟨rfl, fun _ => rfl, fun k x => by kernel_rfl⟩, trivial⟩ (fun k x => by kernel_rfl) (fun k => ⟨⟨nat_own.c k, nat_Mul.c k, trivial⟩, trivial, trivial⟩) k
end nat_Pow

namespace ratio_ten
def s0 : PSig := ⟨0, [], [(0, .val (.int .i64)), (3, .val (.list (.int .u32)))]⟩
def fws : Nat → List (FuncId × FW) := fun _ => []
def ptL : List (Pt (TD [(.list (.int .u32))])) := [⟨0, s0, fun k (x : Int × (List Int)) => ratio_ten.p0 k x.1 x.2⟩]
def fns : Nat → List (FuncId × FS) := fun k => [(62, ⟨[(.list (.int .u32)), (.int .i64)], [(.list (.int .u32)), (.int .i64)], fun (x : (List Int) × Int) => nat_Pow.f k x.1 x.2⟩), (35, ⟨[(.list (.int .u32)), (.list (.int .u32))], [(.list (.int .u32))], fun (x : (List Int) × (List Int)) => nat_Mul.f k x.1 x.2⟩)]
def fgs : Nat → List (FuncId × FG) := fun _ => []
def fs (k : Nat) : FS := ⟨[(.int .i64)], [(.list (.int .u32))], fun (x : Int) => ratio_ten.f k x⟩
theorem ok : FnOk Tryd.prog 33 24 Tryd.f33.results.toList (Tryd.f33.body.getD .skip) 1 := ⟨⟨Tryd.f33, by kernel_rfl, by kernel_rfl, by kernel_rfl, rfl, by kernel_rfl⟩, by kernel_rfl, by decide⟩
theorem c (k : Nat) : Contract Tryd.prog 33 (fs k) :=
  fn_sound (ps := [(.int .i64)]) (rs := [(.list (.int .u32))]) (pts := ptL) (fns := fns) (fgs := fgs) (fws := fws) (tys := tyTab) (main := fun k (x : Int) => ratio_ten.f k x) ok mix tyOk ⟨⟨rfl, fun _ => rfl, fun k x => by kernel_rfl⟩, trivial⟩ (fun k x => by kernel_rfl) (fun k => ⟨⟨nat_Pow.c k, nat_Mul.c k, trivial⟩, trivial, trivial⟩) k
end ratio_ten

namespace nat_Add
def s7 : PSig := ⟨0, [], [(0, .val (.list (.int .u32))), (1, .val (.list (.int .u32)))]⟩
def s0 : PSig := ⟨0, [(66, (.int .u32), false)], [(0, .val (.list (.int .u32))), (1, .val (.list (.int .u32))), (5, .own 0), (6, .val (.int .u32)), (21, .val (.int .i64)), (22, .val (.int .i64))]⟩
def s23 : PSig := ⟨0, [(66, (.int .u32), false)], [(0, .val (.list (.int .u32))), (1, .val (.list (.int .u32))), (5, .own 0), (6, .val (.int .u32)), (7, .val (.int .i64)), (8, .val (.int .u32)), (21, .val (.int .i64)), (22, .val (.int .i64))]⟩
def fws : Nat → List (FuncId × FW) := fun _ => []
def ptL : List (Pt (TD [(.list (.int .u32))])) := [⟨7, s7, fun k (x : (List Int) × (List Int)) => nat_Add.p7 k x.1 x.2⟩, ⟨0, s0, fun k (x : (List Int) × (List Int) × (List Int) × Int × Int × Int) => nat_Add.p0 k x.1 x.2.1 x.2.2.1 x.2.2.2.1 x.2.2.2.2.1 x.2.2.2.2.2⟩, ⟨23, s23, fun k (x : (List Int) × (List Int) × (List Int) × Int × Int × Int × Int × Int) => nat_Add.p23 k x.1 x.2.1 x.2.2.1 x.2.2.2.1 x.2.2.2.2.1 x.2.2.2.2.2.1 x.2.2.2.2.2.2.1 x.2.2.2.2.2.2.2⟩]
def fns : Nat → List (FuncId × FS) := fun k => [(63, ⟨[(.int .u32), (.int .u32), (.int .u32)], [(.int .u32), (.int .u32)], fun (x : Int × Int × Int) => bits_Add32.f k x.1 x.2.1 x.2.2⟩), (55, ⟨[(.list (.int .u32))], [(.list (.int .u32))], fun (x : (List Int)) => nat_own.f k x⟩)]
def fgs : Nat → List (FuncId × FG) := fun _ => []
def fs (k : Nat) : FS := ⟨[(.list (.int .u32)), (.list (.int .u32))], [(.list (.int .u32))], fun (x : (List Int) × (List Int)) => nat_Add.f k x.1 x.2⟩
theorem ok : FnOk Tryd.prog 34 54 Tryd.f34.results.toList (Tryd.f34.body.getD .skip) 2 := ⟨⟨Tryd.f34, by kernel_rfl, by kernel_rfl, by kernel_rfl, rfl, by kernel_rfl⟩, by kernel_rfl, by decide⟩
theorem c (k : Nat) : Contract Tryd.prog 34 (fs k) :=
  fn_sound (ps := [(.list (.int .u32)), (.list (.int .u32))]) (rs := [(.list (.int .u32))]) (pts := ptL) (fns := fns) (fgs := fgs) (fws := fws) (tys := tyTab) (main := fun k (x : (List Int) × (List Int)) => nat_Add.f k x.1 x.2) ok mix tyOk ⟨⟨rfl, fun _ => rfl, fun k x => by kernel_rfl⟩, ⟨rfl, fun _ => rfl, fun k x => by kernel_rfl⟩, ⟨rfl, fun _ => rfl, fun k x => by kernel_rfl⟩, trivial⟩ (fun k x => by kernel_rfl) (fun k => ⟨⟨bits_Add32.c k, nat_own.c k, trivial⟩, trivial, trivial⟩) k
end nat_Add

namespace ratio_Parse
def s15 : PSig := ⟨0, [(27, (.st (.pair (.st (.pair .bool (.list (.int .u32)))) (.list (.int .u32)))), true)], [(2, .ptr 0 [])]⟩
def s25 : PSig := ⟨0, [(27, (.st (.pair (.st (.pair .bool (.list (.int .u32)))) (.list (.int .u32)))), true)], [(2, .ptr 0 [])]⟩
def s27 : PSig := ⟨0, [(27, (.st (.pair (.st (.pair .bool (.list (.int .u32)))) (.list (.int .u32)))), true)], [(2, .ptr 0 []), (5, .val .bool), (14, .val .str), (16, .val (.list (.int .u32)))]⟩
def s33 : PSig := ⟨0, [(27, (.st (.pair (.st (.pair .bool (.list (.int .u32)))) (.list (.int .u32)))), true)], [(2, .ptr 0 []), (5, .val .bool), (14, .val .str), (16, .val (.list (.int .u32))), (18, .val .str)]⟩
def fws : Nat → List (FuncId × FW) := fun _ => []
def ptL : List (Pt (TD [(.st (.pair (.st (.pair .bool (.list (.int .u32)))) (.list (.int .u32)))), (.int .i64)])) := [⟨15, s15, fun k (x : ((Bool × (List Int)) × (List Int))) => ratio_Parse.p15 k x⟩, ⟨25, s25, fun k (x : ((Bool × (List Int)) × (List Int))) => ratio_Parse.p25 k x⟩, ⟨27, s27, fun k (x : ((Bool × (List Int)) × (List Int)) × Bool × ByteArray × (List Int)) => ratio_Parse.p27 k x.1 x.2.1 x.2.2.1 x.2.2.2⟩, ⟨33, s33, fun k (x : ((Bool × (List Int)) × (List Int)) × Bool × ByteArray × (List Int) × ByteArray) => ratio_Parse.p33 k x.1 x.2.1 x.2.2.1 x.2.2.2.1 x.2.2.2.2⟩]
def fns : Nat → List (FuncId × FS) := fun k => [(28, ⟨[.str, .str], [.str, .bool], fun (x : ByteArray × ByteArray) => strings_CutPrefix.f k x.1 x.2⟩), (29, ⟨[.str, .str], [.str, .str, .bool], fun (x : ByteArray × ByteArray) => strings_Cut.f k x.1 x.2⟩), (30, ⟨[.str, (.int .i64)], [(.list (.int .u32)), (.int .i64)], fun (x : ByteArray × Int) => nat_Parse.f k x.1 x.2⟩), (31, ⟨[(.st (.pair .bool (.list (.int .u32)))), (.list (.int .u32))], [(.st (.pair (.st (.pair .bool (.list (.int .u32)))) (.list (.int .u32))))], fun (x : (Bool × (List Int)) × (List Int)) => ratio_made.f k x.1 x.2⟩), (32, ⟨[.str, .str], [.str], fun (x : ByteArray × ByteArray) => strings_TrimLeft.f k x.1 x.2⟩), (33, ⟨[(.int .i64)], [(.list (.int .u32))], fun (x : Int) => ratio_ten.f k x⟩), (35, ⟨[(.list (.int .u32)), (.list (.int .u32))], [(.list (.int .u32))], fun (x : (List Int) × (List Int)) => nat_Mul.f k x.1 x.2⟩), (34, ⟨[(.list (.int .u32)), (.list (.int .u32))], [(.list (.int .u32))], fun (x : (List Int) × (List Int)) => nat_Add.f k x.1 x.2⟩)]
def fgs : Nat → List (FuncId × FG) := fun _ => []
def fs (k : Nat) : FS := ⟨[.str], [(.st (.pair (.st (.pair .bool (.list (.int .u32)))) (.list (.int .u32)))), (.int .i64)], fun (x : ByteArray) => ratio_Parse.f k x⟩
theorem ok : FnOk Tryd.prog 14 105 Tryd.f14.results.toList (Tryd.f14.body.getD .skip) 1 := ⟨⟨Tryd.f14, by kernel_rfl, by kernel_rfl, by kernel_rfl, rfl, by kernel_rfl⟩, by kernel_rfl, by decide⟩
theorem c (k : Nat) : Contract Tryd.prog 14 (fs k) :=
  fn_sound (ps := [.str]) (rs := [(.st (.pair (.st (.pair .bool (.list (.int .u32)))) (.list (.int .u32)))), (.int .i64)]) (pts := ptL) (fns := fns) (fgs := fgs) (fws := fws) (tys := tyTab) (main := fun k (x : ByteArray) => ratio_Parse.f k x) ok mix tyOk ⟨⟨rfl, fun _ => rfl, fun k x => by kernel_rfl⟩, ⟨rfl, fun _ => rfl, fun k x => by kernel_rfl⟩, ⟨rfl, fun _ => rfl, fun k x => by kernel_rfl⟩, ⟨rfl, fun _ => rfl, fun k x => by kernel_rfl⟩, trivial⟩ (fun k x => by kernel_rfl) (fun k => ⟨⟨strings_CutPrefix.c k, strings_Cut.c k, nat_Parse.c k, ratio_made.c k, strings_TrimLeft.c k, ratio_ten.c k, nat_Mul.c k, nat_Add.c k, trivial⟩, trivial, trivial⟩) k
end ratio_Parse

namespace delta_Norm
def fws : Nat → List (FuncId × FW) := fun _ => []
def ptL : List (Pt (TD [(.st (.pair (.st (.pair (.st (.pair .bool (.list (.int .u32)))) (.list (.int .u32)))) (.st (.pair (.st (.pair .bool (.list (.int .u32)))) (.list (.int .u32))))))])) := []
def fns : Nat → List (FuncId × FS) := fun k => [(20, ⟨[(.st (.pair (.st (.pair .bool (.list (.int .u32)))) (.list (.int .u32))))], [(.st (.pair (.st (.pair .bool (.list (.int .u32)))) (.list (.int .u32))))], fun (x : ((Bool × (List Int)) × (List Int))) => ratio_Norm.f k x⟩)]
def fgs : Nat → List (FuncId × FG) := fun _ => []
def fs (k : Nat) : FS := ⟨[(.st (.pair (.st (.pair (.st (.pair .bool (.list (.int .u32)))) (.list (.int .u32)))) (.st (.pair (.st (.pair .bool (.list (.int .u32)))) (.list (.int .u32))))))], [(.st (.pair (.st (.pair (.st (.pair .bool (.list (.int .u32)))) (.list (.int .u32)))) (.st (.pair (.st (.pair .bool (.list (.int .u32)))) (.list (.int .u32))))))], fun (x : (((Bool × (List Int)) × (List Int)) × ((Bool × (List Int)) × (List Int)))) => delta_Norm.f k x⟩
theorem ok : FnOk Tryd.prog 10 10 Tryd.f10.results.toList (Tryd.f10.body.getD .skip) 1 := ⟨⟨Tryd.f10, by kernel_rfl, by kernel_rfl, by kernel_rfl, rfl, by kernel_rfl⟩, by kernel_rfl, by decide⟩
theorem c (k : Nat) : Contract Tryd.prog 10 (fs k) :=
  fn_sound (ps := [(.st (.pair (.st (.pair (.st (.pair .bool (.list (.int .u32)))) (.list (.int .u32)))) (.st (.pair (.st (.pair .bool (.list (.int .u32)))) (.list (.int .u32))))))]) (rs := [(.st (.pair (.st (.pair (.st (.pair .bool (.list (.int .u32)))) (.list (.int .u32)))) (.st (.pair (.st (.pair .bool (.list (.int .u32)))) (.list (.int .u32))))))]) (pts := ptL) (fns := fns) (fgs := fgs) (fws := fws) (tys := tyTab) (main := fun k (x : (((Bool × (List Int)) × (List Int)) × ((Bool × (List Int)) × (List Int)))) => delta_Norm.f k x) ok mix tyOk trivial (fun k x => by kernel_rfl) (fun k => ⟨⟨ratio_Norm.c k, trivial⟩, trivial, trivial⟩) k
end delta_Norm

namespace delta_Parse
def s19 : PSig := ⟨0, [(29, (.st (.pair (.st (.pair (.st (.pair .bool (.list (.int .u32)))) (.list (.int .u32)))) (.st (.pair (.st (.pair .bool (.list (.int .u32)))) (.list (.int .u32)))))), true), (29, (.st (.pair (.st (.pair (.st (.pair .bool (.list (.int .u32)))) (.list (.int .u32)))) (.st (.pair (.st (.pair .bool (.list (.int .u32)))) (.list (.int .u32)))))), true)], [(0, .val .str), (2, .ptr 0 []), (4, .ptr 1 []), (5, .val .str), (6, .val .str)]⟩
def s35 : PSig := ⟨0, [(29, (.st (.pair (.st (.pair (.st (.pair .bool (.list (.int .u32)))) (.list (.int .u32)))) (.st (.pair (.st (.pair .bool (.list (.int .u32)))) (.list (.int .u32)))))), true), (29, (.st (.pair (.st (.pair (.st (.pair .bool (.list (.int .u32)))) (.list (.int .u32)))) (.st (.pair (.st (.pair .bool (.list (.int .u32)))) (.list (.int .u32)))))), true)], [(0, .val .str), (2, .ptr 0 []), (4, .ptr 1 [])]⟩
def fws : Nat → List (FuncId × FW) := fun _ => []
def ptL : List (Pt (TD [(.st (.pair (.st (.pair (.st (.pair .bool (.list (.int .u32)))) (.list (.int .u32)))) (.st (.pair (.st (.pair .bool (.list (.int .u32)))) (.list (.int .u32)))))), (.int .i64)])) := [⟨19, s19, fun k (x : (((Bool × (List Int)) × (List Int)) × ((Bool × (List Int)) × (List Int))) × (((Bool × (List Int)) × (List Int)) × ((Bool × (List Int)) × (List Int))) × ByteArray × ByteArray × ByteArray) => delta_Parse.p19 k x.1 x.2.1 x.2.2.1 x.2.2.2.1 x.2.2.2.2⟩, ⟨35, s35, fun k (x : (((Bool × (List Int)) × (List Int)) × ((Bool × (List Int)) × (List Int))) × (((Bool × (List Int)) × (List Int)) × ((Bool × (List Int)) × (List Int))) × ByteArray) => delta_Parse.p35 k x.1 x.2.1 x.2.2⟩]
def fns : Nat → List (FuncId × FS) := fun k => [(11, ⟨[.str, .str], [.str, .bool], fun (x : ByteArray × ByteArray) => strings_CutSuffix.f k x.1 x.2⟩), (12, ⟨[.str, .str], [(.int .i64)], fun (x : ByteArray × ByteArray) => strings_LastIndexAny_h.f k x.1 x.2⟩), (13, ⟨[.str, .str], [.str], fun (x : ByteArray × ByteArray) => strings_TrimPrefix.f k x.1 x.2⟩), (14, ⟨[.str], [(.st (.pair (.st (.pair .bool (.list (.int .u32)))) (.list (.int .u32)))), (.int .i64)], fun (x : ByteArray) => ratio_Parse.f k x⟩), (10, ⟨[(.st (.pair (.st (.pair (.st (.pair .bool (.list (.int .u32)))) (.list (.int .u32)))) (.st (.pair (.st (.pair .bool (.list (.int .u32)))) (.list (.int .u32))))))], [(.st (.pair (.st (.pair (.st (.pair .bool (.list (.int .u32)))) (.list (.int .u32)))) (.st (.pair (.st (.pair .bool (.list (.int .u32)))) (.list (.int .u32))))))], fun (x : (((Bool × (List Int)) × (List Int)) × ((Bool × (List Int)) × (List Int)))) => delta_Norm.f k x⟩), (6, ⟨[(.st (.pair (.st (.pair (.st (.pair .bool (.list (.int .u32)))) (.list (.int .u32)))) (.st (.pair (.st (.pair .bool (.list (.int .u32)))) (.list (.int .u32))))))], [.str], fun (x : (((Bool × (List Int)) × (List Int)) × ((Bool × (List Int)) × (List Int)))) => delta_Text.f k x⟩)]
def fgs : Nat → List (FuncId × FG) := fun _ => []
def fs (k : Nat) : FS := ⟨[.str], [(.st (.pair (.st (.pair (.st (.pair .bool (.list (.int .u32)))) (.list (.int .u32)))) (.st (.pair (.st (.pair .bool (.list (.int .u32)))) (.list (.int .u32)))))), (.int .i64)], fun (x : ByteArray) => delta_Parse.f k x⟩
theorem ok : FnOk Tryd.prog 5 58 Tryd.f5.results.toList (Tryd.f5.body.getD .skip) 1 := ⟨⟨Tryd.f5, by kernel_rfl, by kernel_rfl, by kernel_rfl, rfl, by kernel_rfl⟩, by kernel_rfl, by decide⟩
theorem c (k : Nat) : Contract Tryd.prog 5 (fs k) :=
  fn_sound (ps := [.str]) (rs := [(.st (.pair (.st (.pair (.st (.pair .bool (.list (.int .u32)))) (.list (.int .u32)))) (.st (.pair (.st (.pair .bool (.list (.int .u32)))) (.list (.int .u32)))))), (.int .i64)]) (pts := ptL) (fns := fns) (fgs := fgs) (fws := fws) (tys := tyTab) (main := fun k (x : ByteArray) => delta_Parse.f k x) ok mix tyOk ⟨⟨rfl, fun _ => rfl, fun k x => by kernel_rfl⟩, ⟨rfl, fun _ => rfl, fun k x => by kernel_rfl⟩, trivial⟩ (fun k x => by kernel_rfl) (fun k => ⟨⟨strings_CutSuffix.c k, strings_LastIndexAny_h.c k, strings_TrimPrefix.c k, ratio_Parse.c k, delta_Norm.c k, delta_Text.c k, trivial⟩, trivial, trivial⟩) k
end delta_Parse

namespace ref01_Norm
def s0 : PSig := ⟨0, [], [(0, .val (.list (.int .u32))), (3, .val (.int .i64))]⟩
def s9 : PSig := ⟨0, [], [(0, .val (.list (.int .u32))), (3, .val (.int .i64))]⟩
def s4 : PSig := ⟨0, [(66, (.int .u32), false)], [(0, .val (.list (.int .u32))), (3, .val (.int .i64)), (4, .own 0), (5, .val (.int .i64))]⟩
def fws : Nat → List (FuncId × FW) := fun _ => []
def ptL : List (Pt (TD [(.list (.int .u32))])) := [⟨0, s0, fun k (x : (List Int) × Int) => ref01_Norm.p0 k x.1 x.2⟩, ⟨9, s9, fun k (x : (List Int) × Int) => ref01_Norm.p9 k x.1 x.2⟩, ⟨4, s4, fun k (x : (List Int) × (List Int) × Int × Int) => ref01_Norm.p4 k x.1 x.2.1 x.2.2.1 x.2.2.2⟩]
def fns : Nat → List (FuncId × FS) := fun _ => []
def fgs : Nat → List (FuncId × FG) := fun _ => []
def fs (k : Nat) : FS := ⟨[(.list (.int .u32))], [(.list (.int .u32))], fun (x : (List Int)) => ref01_Norm.f k x⟩
theorem ok : FnOk Tryd.prog 68 35 Tryd.f68.results.toList (Tryd.f68.body.getD .skip) 1 := ⟨⟨Tryd.f68, by kernel_rfl, by kernel_rfl, by kernel_rfl, rfl, by kernel_rfl⟩, by kernel_rfl, by decide⟩
theorem c (k : Nat) : Contract Tryd.prog 68 (fs k) :=
  fn_sound (ps := [(.list (.int .u32))]) (rs := [(.list (.int .u32))]) (pts := ptL) (fns := fns) (fgs := fgs) (fws := fws) (tys := tyTab) (main := fun k (x : (List Int)) => ref01_Norm.f k x) ok mix tyOk ⟨⟨rfl, fun _ => rfl, fun k x => by kernel_rfl⟩, ⟨rfl, fun _ => rfl, fun k x => by kernel_rfl⟩, ⟨rfl, fun _ => rfl, fun k x => by kernel_rfl⟩, trivial⟩ (fun k x => by kernel_rfl) (fun _ => ⟨trivial, trivial, trivial⟩) k
end ref01_Norm

namespace ref01_Of
def fws : Nat → List (FuncId × FW) := fun _ => []
def ptL : List (Pt (TD [(.list (.int .u32))])) := []
def fns : Nat → List (FuncId × FS) := fun k => [(68, ⟨[(.list (.int .u32))], [(.list (.int .u32))], fun (x : (List Int)) => ref01_Norm.f k x⟩)]
def fgs : Nat → List (FuncId × FG) := fun _ => []
def fs (k : Nat) : FS := ⟨[(.int .u64)], [(.list (.int .u32))], fun (x : Int) => ref01_Of.f k x⟩
theorem ok : FnOk Tryd.prog 72 10 Tryd.f72.results.toList (Tryd.f72.body.getD .skip) 1 := ⟨⟨Tryd.f72, by kernel_rfl, by kernel_rfl, by kernel_rfl, rfl, by kernel_rfl⟩, by kernel_rfl, by decide⟩
theorem c (k : Nat) : Contract Tryd.prog 72 (fs k) :=
  fn_sound (ps := [(.int .u64)]) (rs := [(.list (.int .u32))]) (pts := ptL) (fns := fns) (fgs := fgs) (fws := fws) (tys := tyTab) (main := fun k (x : Int) => ref01_Of.f k x) ok mix tyOk trivial (fun k x => by kernel_rfl) (fun k => ⟨⟨ref01_Norm.c k, trivial⟩, trivial, trivial⟩) k
end ref01_Of

namespace ref02_made
def fws : Nat → List (FuncId × FW) := fun _ => []
def ptL : List (Pt (TD [(.st (.pair .bool (.list (.int .u32))))])) := []
def fns : Nat → List (FuncId × FS) := fun k => [(68, ⟨[(.list (.int .u32))], [(.list (.int .u32))], fun (x : (List Int)) => ref01_Norm.f k x⟩)]
def fgs : Nat → List (FuncId × FG) := fun _ => []
def fs (k : Nat) : FS := ⟨[.bool, (.list (.int .u32))], [(.st (.pair .bool (.list (.int .u32))))], fun (x : Bool × (List Int)) => ref02_made.f k x.1 x.2⟩
theorem ok : FnOk Tryd.prog 71 16 Tryd.f71.results.toList (Tryd.f71.body.getD .skip) 2 := ⟨⟨Tryd.f71, by kernel_rfl, by kernel_rfl, by kernel_rfl, rfl, by kernel_rfl⟩, by kernel_rfl, by decide⟩
theorem c (k : Nat) : Contract Tryd.prog 71 (fs k) :=
  fn_sound (ps := [.bool, (.list (.int .u32))]) (rs := [(.st (.pair .bool (.list (.int .u32))))]) (pts := ptL) (fns := fns) (fgs := fgs) (fws := fws) (tys := tyTab) (main := fun k (x : Bool × (List Int)) => ref02_made.f k x.1 x.2) ok mix tyOk trivial (fun k x => by kernel_rfl) (fun k => ⟨⟨ref01_Norm.c k, trivial⟩, trivial, trivial⟩) k
end ref02_made

namespace ref02_Of
def fws : Nat → List (FuncId × FW) := fun _ => []
def ptL : List (Pt (TD [(.st (.pair .bool (.list (.int .u32))))])) := []
def fns : Nat → List (FuncId × FS) := fun k => [(72, ⟨[(.int .u64)], [(.list (.int .u32))], fun (x : Int) => ref01_Of.f k x⟩), (71, ⟨[.bool, (.list (.int .u32))], [(.st (.pair .bool (.list (.int .u32))))], fun (x : Bool × (List Int)) => ref02_made.f k x.1 x.2⟩)]
def fgs : Nat → List (FuncId × FG) := fun _ => []
def fs (k : Nat) : FS := ⟨[(.int .i64)], [(.st (.pair .bool (.list (.int .u32))))], fun (x : Int) => ref02_Of.f k x⟩
theorem ok : FnOk Tryd.prog 42 14 Tryd.f42.results.toList (Tryd.f42.body.getD .skip) 1 := ⟨⟨Tryd.f42, by kernel_rfl, by kernel_rfl, by kernel_rfl, rfl, by kernel_rfl⟩, by kernel_rfl, by decide⟩
theorem c (k : Nat) : Contract Tryd.prog 42 (fs k) :=
  fn_sound (ps := [(.int .i64)]) (rs := [(.st (.pair .bool (.list (.int .u32))))]) (pts := ptL) (fns := fns) (fgs := fgs) (fws := fws) (tys := tyTab) (main := fun k (x : Int) => ref02_Of.f k x) ok mix tyOk trivial (fun k x => by kernel_rfl) (fun k => ⟨⟨ref01_Of.c k, ref02_made.c k, trivial⟩, trivial, trivial⟩) k
end ref02_Of

namespace ref02_Norm
def fws : Nat → List (FuncId × FW) := fun _ => []
def ptL : List (Pt (TD [(.st (.pair .bool (.list (.int .u32))))])) := []
def fns : Nat → List (FuncId × FS) := fun k => [(71, ⟨[.bool, (.list (.int .u32))], [(.st (.pair .bool (.list (.int .u32))))], fun (x : Bool × (List Int)) => ref02_made.f k x.1 x.2⟩)]
def fgs : Nat → List (FuncId × FG) := fun _ => []
def fs (k : Nat) : FS := ⟨[(.st (.pair .bool (.list (.int .u32))))], [(.st (.pair .bool (.list (.int .u32))))], fun (x : (Bool × (List Int))) => ref02_Norm.f k x⟩
theorem ok : FnOk Tryd.prog 67 8 Tryd.f67.results.toList (Tryd.f67.body.getD .skip) 1 := ⟨⟨Tryd.f67, by kernel_rfl, by kernel_rfl, by kernel_rfl, rfl, by kernel_rfl⟩, by kernel_rfl, by decide⟩
theorem c (k : Nat) : Contract Tryd.prog 67 (fs k) :=
  fn_sound (ps := [(.st (.pair .bool (.list (.int .u32))))]) (rs := [(.st (.pair .bool (.list (.int .u32))))]) (pts := ptL) (fns := fns) (fgs := fgs) (fws := fws) (tys := tyTab) (main := fun k (x : (Bool × (List Int))) => ref02_Norm.f k x) ok mix tyOk trivial (fun k x => by kernel_rfl) (fun k => ⟨⟨ref02_made.c k, trivial⟩, trivial, trivial⟩) k
end ref02_Norm

namespace ref01_at
def fws : Nat → List (FuncId × FW) := fun _ => []
def ptL : List (Pt (TD [(.int .u64)])) := []
def fns : Nat → List (FuncId × FS) := fun _ => []
def fgs : Nat → List (FuncId × FG) := fun _ => []
def fs (k : Nat) : FS := ⟨[(.list (.int .u32)), (.int .i64)], [(.int .u64)], fun (x : (List Int) × Int) => ref01_at.f k x.1 x.2⟩
theorem ok : FnOk Tryd.prog 94 14 Tryd.f94.results.toList (Tryd.f94.body.getD .skip) 2 := ⟨⟨Tryd.f94, by kernel_rfl, by kernel_rfl, by kernel_rfl, rfl, by kernel_rfl⟩, by kernel_rfl, by decide⟩
theorem c (k : Nat) : Contract Tryd.prog 94 (fs k) :=
  fn_sound (ps := [(.list (.int .u32)), (.int .i64)]) (rs := [(.int .u64)]) (pts := ptL) (fns := fns) (fgs := fgs) (fws := fws) (tys := tyTab) (main := fun k (x : (List Int) × Int) => ref01_at.f k x.1 x.2) ok mix tyOk trivial (fun k x => by kernel_rfl) (fun _ => ⟨trivial, trivial, trivial⟩) k
end ref01_at

namespace ref01_Cmp
def s9 : PSig := ⟨0, [], [(0, .val (.list (.int .u32))), (1, .val (.list (.int .u32))), (5, .val (.int .i64))]⟩
def s0 : PSig := ⟨0, [], [(0, .val (.list (.int .u32))), (1, .val (.list (.int .u32))), (6, .val (.int .i64))]⟩
def fws : Nat → List (FuncId × FW) := fun _ => []
def ptL : List (Pt (TD [(.int .i64)])) := [⟨9, s9, fun k (x : (List Int) × (List Int) × Int) => ref01_Cmp.p9 k x.1 x.2.1 x.2.2⟩, ⟨0, s0, fun k (x : (List Int) × (List Int) × Int) => ref01_Cmp.p0 k x.1 x.2.1 x.2.2⟩]
def fns : Nat → List (FuncId × FS) := fun k => [(94, ⟨[(.list (.int .u32)), (.int .i64)], [(.int .u64)], fun (x : (List Int) × Int) => ref01_at.f k x.1 x.2⟩)]
def fgs : Nat → List (FuncId × FG) := fun _ => []
def fs (k : Nat) : FS := ⟨[(.list (.int .u32)), (.list (.int .u32))], [(.int .i64)], fun (x : (List Int) × (List Int)) => ref01_Cmp.f k x.1 x.2⟩
theorem ok : FnOk Tryd.prog 82 35 Tryd.f82.results.toList (Tryd.f82.body.getD .skip) 2 := ⟨⟨Tryd.f82, by kernel_rfl, by kernel_rfl, by kernel_rfl, rfl, by kernel_rfl⟩, by kernel_rfl, by decide⟩
theorem c (k : Nat) : Contract Tryd.prog 82 (fs k) :=
  fn_sound (ps := [(.list (.int .u32)), (.list (.int .u32))]) (rs := [(.int .i64)]) (pts := ptL) (fns := fns) (fgs := fgs) (fws := fws) (tys := tyTab) (main := fun k (x : (List Int) × (List Int)) => ref01_Cmp.f k x.1 x.2) ok mix tyOk ⟨⟨rfl, fun _ => rfl, fun k x => by kernel_rfl⟩, ⟨rfl, fun _ => rfl, fun k x => by kernel_rfl⟩, trivial⟩ (fun k x => by kernel_rfl) (fun k => ⟨⟨ref01_at.c k, trivial⟩, trivial, trivial⟩) k
end ref01_Cmp

namespace ref01_Bit
def fws : Nat → List (FuncId × FW) := fun _ => []
def ptL : List (Pt (TD [.bool])) := []
def fns : Nat → List (FuncId × FS) := fun _ => []
def fgs : Nat → List (FuncId × FG) := fun _ => []
def fs (k : Nat) : FS := ⟨[(.list (.int .u32)), (.int .i64)], [.bool], fun (x : (List Int) × Int) => ref01_Bit.f k x.1 x.2⟩
theorem ok : FnOk Tryd.prog 83 27 Tryd.f83.results.toList (Tryd.f83.body.getD .skip) 2 := ⟨⟨Tryd.f83, by kernel_rfl, by kernel_rfl, by kernel_rfl, rfl, by kernel_rfl⟩, by kernel_rfl, by decide⟩
theorem c (k : Nat) : Contract Tryd.prog 83 (fs k) :=
  fn_sound (ps := [(.list (.int .u32)), (.int .i64)]) (rs := [.bool]) (pts := ptL) (fns := fns) (fgs := fgs) (fws := fws) (tys := tyTab) (main := fun k (x : (List Int) × Int) => ref01_Bit.f k x.1 x.2) ok mix tyOk trivial (fun k x => by kernel_rfl) (fun _ => ⟨trivial, trivial, trivial⟩) k
end ref01_Bit

namespace ref01_Shift
def s5 : PSig := ⟨0, [], []⟩
def s17 : PSig := ⟨0, [], [(0, .val (.list (.int .u32))), (1, .val (.int .i64)), (6, .val (.int .i64))]⟩
def s29 : PSig := ⟨0, [(66, (.int .u32), false)], [(0, .val (.list (.int .u32))), (6, .val (.int .i64)), (7, .own 0), (8, .val (.int .i64)), (9, .val (.int .i64))]⟩
def s0 : PSig := ⟨0, [(66, (.int .u32), false)], [(0, .val (.list (.int .u32))), (6, .val (.int .i64)), (7, .own 0), (8, .val (.int .i64)), (9, .val (.int .i64)), (10, .val (.int .i64))]⟩
def s41 : PSig := ⟨0, [(66, (.int .u32), false)], [(0, .val (.list (.int .u32))), (6, .val (.int .i64)), (7, .own 0), (8, .val (.int .i64)), (9, .val (.int .i64)), (10, .val (.int .i64)), (11, .val (.int .u64))]⟩
def s33 : PSig := ⟨0, [(66, (.int .u32), false)], [(0, .val (.list (.int .u32))), (6, .val (.int .i64)), (7, .own 0), (8, .val (.int .i64)), (9, .val (.int .i64)), (10, .val (.int .i64))]⟩
def fws : Nat → List (FuncId × FW) := fun _ => []
def ptL : List (Pt (TD [(.list (.int .u32)), (.int .i64)])) := [⟨5, s5, fun k (x : Unit) => ref01_Shift.p5 k x⟩, ⟨17, s17, fun k (x : (List Int) × Int × Int) => ref01_Shift.p17 k x.1 x.2.1 x.2.2⟩, ⟨29, s29, fun k (x : (List Int) × (List Int) × Int × Int × Int) => ref01_Shift.p29 k x.1 x.2.1 x.2.2.1 x.2.2.2.1 x.2.2.2.2⟩, ⟨0, s0, fun k (x : (List Int) × (List Int) × Int × Int × Int × Int) => ref01_Shift.p0 k x.1 x.2.1 x.2.2.1 x.2.2.2.1 x.2.2.2.2.1 x.2.2.2.2.2⟩, ⟨41, s41, fun k (x : (List Int) × (List Int) × Int × Int × Int × Int × Int) => ref01_Shift.p41 k x.1 x.2.1 x.2.2.1 x.2.2.2.1 x.2.2.2.2.1 x.2.2.2.2.2.1 x.2.2.2.2.2.2⟩, ⟨33, s33, fun k (x : (List Int) × (List Int) × Int × Int × Int × Int) => ref01_Shift.p33 k x.1 x.2.1 x.2.2.1 x.2.2.2.1 x.2.2.2.2.1 x.2.2.2.2.2⟩]
def fns : Nat → List (FuncId × FS) := fun k => [(68, ⟨[(.list (.int .u32))], [(.list (.int .u32))], fun (x : (List Int)) => ref01_Norm.f k x⟩)]
def fgs : Nat → List (FuncId × FG) := fun _ => []
def fs (k : Nat) : FS := ⟨[(.list (.int .u32)), (.int .i64)], [(.list (.int .u32)), (.int .i64)], fun (x : (List Int) × Int) => ref01_Shift.f k x.1 x.2⟩
theorem ok : FnOk Tryd.prog 84 106 Tryd.f84.results.toList (Tryd.f84.body.getD .skip) 2 := ⟨⟨Tryd.f84, by kernel_rfl, by kernel_rfl, by kernel_rfl, rfl, by kernel_rfl⟩, by kernel_rfl, by decide⟩
theorem c (k : Nat) : Contract Tryd.prog 84 (fs k) :=
  fn_sound (ps := [(.list (.int .u32)), (.int .i64)]) (rs := [(.list (.int .u32)), (.int .i64)]) (pts := ptL) (fns := fns) (fgs := fgs) (fws := fws) (tys := tyTab) (main := fun k (x : (List Int) × Int) => ref01_Shift.f k x.1 x.2) ok mix tyOk ⟨⟨rfl, fun _ => rfl, fun k x => by kernel_rfl⟩, ⟨rfl, fun _ => rfl, fun k x => by kernel_rfl⟩, ⟨rfl, fun _ => rfl, fun k x => by kernel_rfl⟩, ⟨rfl, fun _ => rfl, fun k x => by kernel_rfl⟩, ⟨rfl, fun _ => rfl, fun k x => by kernel_rfl⟩, ⟨rfl, fun _ => rfl, fun k x => by kernel_rfl⟩, trivial⟩ (fun k x => by kernel_rfl) (fun k => ⟨⟨ref01_Norm.c k, trivial⟩, trivial, trivial⟩) k
end ref01_Shift

namespace ref01_Sub
def s0 : PSig := ⟨0, [(66, (.int .u32), false)], [(0, .val (.list (.int .u32))), (1, .val (.list (.int .u32))), (6, .own 0), (7, .val (.int .u64)), (8, .val (.int .i64))]⟩
def fws : Nat → List (FuncId × FW) := fun _ => []
def ptL : List (Pt (TD [(.list (.int .u32)), (.int .i64)])) := [⟨0, s0, fun k (x : (List Int) × (List Int) × (List Int) × Int × Int) => ref01_Sub.p0 k x.1 x.2.1 x.2.2.1 x.2.2.2.1 x.2.2.2.2⟩]
def fns : Nat → List (FuncId × FS) := fun k => [(82, ⟨[(.list (.int .u32)), (.list (.int .u32))], [(.int .i64)], fun (x : (List Int) × (List Int)) => ref01_Cmp.f k x.1 x.2⟩), (94, ⟨[(.list (.int .u32)), (.int .i64)], [(.int .u64)], fun (x : (List Int) × Int) => ref01_at.f k x.1 x.2⟩), (68, ⟨[(.list (.int .u32))], [(.list (.int .u32))], fun (x : (List Int)) => ref01_Norm.f k x⟩)]
def fgs : Nat → List (FuncId × FG) := fun _ => []
def fs (k : Nat) : FS := ⟨[(.list (.int .u32)), (.list (.int .u32))], [(.list (.int .u32)), (.int .i64)], fun (x : (List Int) × (List Int)) => ref01_Sub.f k x.1 x.2⟩
theorem ok : FnOk Tryd.prog 85 41 Tryd.f85.results.toList (Tryd.f85.body.getD .skip) 2 := ⟨⟨Tryd.f85, by kernel_rfl, by kernel_rfl, by kernel_rfl, rfl, by kernel_rfl⟩, by kernel_rfl, by decide⟩
theorem c (k : Nat) : Contract Tryd.prog 85 (fs k) :=
  fn_sound (ps := [(.list (.int .u32)), (.list (.int .u32))]) (rs := [(.list (.int .u32)), (.int .i64)]) (pts := ptL) (fns := fns) (fgs := fgs) (fws := fws) (tys := tyTab) (main := fun k (x : (List Int) × (List Int)) => ref01_Sub.f k x.1 x.2) ok mix tyOk ⟨⟨rfl, fun _ => rfl, fun k x => by kernel_rfl⟩, trivial⟩ (fun k x => by kernel_rfl) (fun k => ⟨⟨ref01_Cmp.c k, ref01_at.c k, ref01_Norm.c k, trivial⟩, trivial, trivial⟩) k
end ref01_Sub

namespace ref01_twice
def s11 : PSig := ⟨0, [(66, (.int .u32), false)], [(0, .val (.list (.int .u32))), (5, .own 0), (6, .val (.int .u32))]⟩
def s0 : PSig := ⟨0, [(66, (.int .u32), false)], [(0, .val (.list (.int .u32))), (5, .own 0), (6, .val (.int .u32)), (7, .val (.int .i64))]⟩
def fws : Nat → List (FuncId × FW) := fun _ => []
def ptL : List (Pt (TD [(.list (.int .u32))])) := [⟨11, s11, fun k (x : (List Int) × (List Int) × Int) => ref01_twice.p11 k x.1 x.2.1 x.2.2⟩, ⟨0, s0, fun k (x : (List Int) × (List Int) × Int × Int) => ref01_twice.p0 k x.1 x.2.1 x.2.2.1 x.2.2.2⟩]
def fns : Nat → List (FuncId × FS) := fun k => [(68, ⟨[(.list (.int .u32))], [(.list (.int .u32))], fun (x : (List Int)) => ref01_Norm.f k x⟩)]
def fgs : Nat → List (FuncId × FG) := fun _ => []
def fs (k : Nat) : FS := ⟨[(.list (.int .u32)), .bool], [(.list (.int .u32))], fun (x : (List Int) × Bool) => ref01_twice.f k x.1 x.2⟩
theorem ok : FnOk Tryd.prog 86 41 Tryd.f86.results.toList (Tryd.f86.body.getD .skip) 2 := ⟨⟨Tryd.f86, by kernel_rfl, by kernel_rfl, by kernel_rfl, rfl, by kernel_rfl⟩, by kernel_rfl, by decide⟩
theorem c (k : Nat) : Contract Tryd.prog 86 (fs k) :=
  fn_sound (ps := [(.list (.int .u32)), .bool]) (rs := [(.list (.int .u32))]) (pts := ptL) (fns := fns) (fgs := fgs) (fws := fws) (tys := tyTab) (main := fun k (x : (List Int) × Bool) => ref01_twice.f k x.1 x.2) ok mix tyOk ⟨⟨rfl, fun _ => rfl, fun k x => by kernel_rfl⟩, ⟨rfl, fun _ => rfl, fun k x => by kernel_rfl⟩, trivial⟩ (fun k x => by kernel_rfl) (fun k => ⟨⟨ref01_Norm.c k, trivial⟩, trivial, trivial⟩) k
end ref01_twice

namespace ref01_Gcd
def s19 : PSig := ⟨0, [], [(5, .val (.list (.int .u32)))]⟩
def s0 : PSig := ⟨0, [], [(0, .val (.list (.int .u32))), (1, .val (.list (.int .u32))), (6, .val (.int .i64))]⟩
def s4 : PSig := ⟨0, [], [(0, .val (.list (.int .u32))), (1, .val (.list (.int .u32))), (6, .val (.int .i64))]⟩
def s8 : PSig := ⟨0, [], [(0, .val (.list (.int .u32))), (1, .val (.list (.int .u32))), (6, .val (.int .i64))]⟩
def s16 : PSig := ⟨0, [], [(0, .val (.list (.int .u32))), (6, .val (.int .i64)), (7, .val (.int .i64))]⟩
def s12 : PSig := ⟨0, [], [(0, .val (.list (.int .u32))), (1, .val (.list (.int .u32))), (6, .val (.int .i64))]⟩
def s45 : PSig := ⟨0, [], [(0, .val (.list (.int .u32))), (1, .val (.list (.int .u32))), (6, .val (.int .i64))]⟩
def fws : Nat → List (FuncId × FW) := fun _ => []
def ptL : List (Pt (TD [(.list (.int .u32))])) := [⟨19, s19, fun k (x : (List Int)) => ref01_Gcd.p19 k x⟩, ⟨0, s0, fun k (x : (List Int) × (List Int) × Int) => ref01_Gcd.p0 k x.1 x.2.1 x.2.2⟩, ⟨4, s4, fun k (x : (List Int) × (List Int) × Int) => ref01_Gcd.p4 k x.1 x.2.1 x.2.2⟩, ⟨8, s8, fun k (x : (List Int) × (List Int) × Int) => ref01_Gcd.p8 k x.1 x.2.1 x.2.2⟩, ⟨16, s16, fun k (x : (List Int) × Int × Int) => ref01_Gcd.p16 k x.1 x.2.1 x.2.2⟩, ⟨12, s12, fun k (x : (List Int) × (List Int) × Int) => ref01_Gcd.p12 k x.1 x.2.1 x.2.2⟩, ⟨45, s45, fun k (x : (List Int) × (List Int) × Int) => ref01_Gcd.p45 k x.1 x.2.1 x.2.2⟩]
def fns : Nat → List (FuncId × FS) := fun k => [(68, ⟨[(.list (.int .u32))], [(.list (.int .u32))], fun (x : (List Int)) => ref01_Norm.f k x⟩), (82, ⟨[(.list (.int .u32)), (.list (.int .u32))], [(.int .i64)], fun (x : (List Int) × (List Int)) => ref01_Cmp.f k x.1 x.2⟩), (83, ⟨[(.list (.int .u32)), (.int .i64)], [.bool], fun (x : (List Int) × Int) => ref01_Bit.f k x.1 x.2⟩), (84, ⟨[(.list (.int .u32)), (.int .i64)], [(.list (.int .u32)), (.int .i64)], fun (x : (List Int) × Int) => ref01_Shift.f k x.1 x.2⟩), (86, ⟨[(.list (.int .u32)), .bool], [(.list (.int .u32))], fun (x : (List Int) × Bool) => ref01_twice.f k x.1 x.2⟩), (85, ⟨[(.list (.int .u32)), (.list (.int .u32))], [(.list (.int .u32)), (.int .i64)], fun (x : (List Int) × (List Int)) => ref01_Sub.f k x.1 x.2⟩)]
def fgs : Nat → List (FuncId × FG) := fun _ => []
def fs (k : Nat) : FS := ⟨[(.list (.int .u32)), (.list (.int .u32))], [(.list (.int .u32))], fun (x : (List Int) × (List Int)) => ref01_Gcd.f k x.1 x.2⟩
theorem ok : FnOk Tryd.prog 69 91 Tryd.f69.results.toList (Tryd.f69.body.getD .skip) 2 := ⟨⟨Tryd.f69, by kernel_rfl, by kernel_rfl, by kernel_rfl, rfl, by kernel_rfl⟩, by kernel_rfl, by decide⟩
theorem c (k : Nat) : Contract Tryd.prog 69 (fs k) :=
  fn_sound (ps := [(.list (.int .u32)), (.list (.int .u32))]) (rs := [(.list (.int .u32))]) (pts := ptL) (fns := fns) (fgs := fgs) (fws := fws) (tys := tyTab) (main := fun k (x : (List Int) × (List Int)) => ref01_Gcd.f k x.1 x.2) ok mix tyOk ⟨⟨rfl, fun _ => rfl, fun k x => by kernel_rfl⟩, ⟨rfl, fun _ => rfl, fun k x => by kernel_rfl⟩, ⟨rfl, fun _ => rfl, fun k x => by kernel_rfl⟩, ⟨rfl, fun _ => rfl, fun k x => by kernel_rfl⟩, ⟨rfl, fun _ => rfl, fun k x => by kernel_rfl⟩, ⟨rfl, fun _ => rfl, fun k x => by kernel_rfl⟩, ⟨rfl, fun _ => rfl, fun k x => by kernel_rfl⟩, trivial⟩ (fun k x => by kernel_rfl) (fun k => ⟨⟨ref01_Norm.c k, ref01_Cmp.c k, ref01_Bit.c k, ref01_Shift.c k, ref01_twice.c k, ref01_Sub.c k, trivial⟩, trivial, trivial⟩) k
end ref01_Gcd

namespace ref01_Div
def s19 : PSig := ⟨0, [(66, (.int .u32), false)], [(0, .val (.list (.int .u32))), (1, .val (.list (.int .u32))), (7, .own 0), (8, .val (.int .i64))]⟩
def s0 : PSig := ⟨0, [(66, (.int .u32), false)], [(0, .val (.list (.int .u32))), (1, .val (.list (.int .u32))), (7, .own 0), (9, .val (.list (.int .u32))), (10, .val (.int .i64))]⟩
def s25 : PSig := ⟨0, [(66, (.int .u32), false)], [(0, .val (.list (.int .u32))), (1, .val (.list (.int .u32))), (7, .own 0), (9, .val (.list (.int .u32))), (10, .val (.int .i64))]⟩
def fws : Nat → List (FuncId × FW) := fun _ => []
def ptL : List (Pt (TD [(.list (.int .u32)), (.list (.int .u32)), (.int .i64)])) := [⟨19, s19, fun k (x : (List Int) × (List Int) × (List Int) × Int) => ref01_Div.p19 k x.1 x.2.1 x.2.2.1 x.2.2.2⟩, ⟨0, s0, fun k (x : (List Int) × (List Int) × (List Int) × (List Int) × Int) => ref01_Div.p0 k x.1 x.2.1 x.2.2.1 x.2.2.2.1 x.2.2.2.2⟩, ⟨25, s25, fun k (x : (List Int) × (List Int) × (List Int) × (List Int) × Int) => ref01_Div.p25 k x.1 x.2.1 x.2.2.1 x.2.2.2.1 x.2.2.2.2⟩]
def fns : Nat → List (FuncId × FS) := fun k => [(68, ⟨[(.list (.int .u32))], [(.list (.int .u32))], fun (x : (List Int)) => ref01_Norm.f k x⟩), (83, ⟨[(.list (.int .u32)), (.int .i64)], [.bool], fun (x : (List Int) × Int) => ref01_Bit.f k x.1 x.2⟩), (86, ⟨[(.list (.int .u32)), .bool], [(.list (.int .u32))], fun (x : (List Int) × Bool) => ref01_twice.f k x.1 x.2⟩), (82, ⟨[(.list (.int .u32)), (.list (.int .u32))], [(.int .i64)], fun (x : (List Int) × (List Int)) => ref01_Cmp.f k x.1 x.2⟩), (85, ⟨[(.list (.int .u32)), (.list (.int .u32))], [(.list (.int .u32)), (.int .i64)], fun (x : (List Int) × (List Int)) => ref01_Sub.f k x.1 x.2⟩)]
def fgs : Nat → List (FuncId × FG) := fun _ => []
def fs (k : Nat) : FS := ⟨[(.list (.int .u32)), (.list (.int .u32))], [(.list (.int .u32)), (.list (.int .u32)), (.int .i64)], fun (x : (List Int) × (List Int)) => ref01_Div.f k x.1 x.2⟩
theorem ok : FnOk Tryd.prog 70 76 Tryd.f70.results.toList (Tryd.f70.body.getD .skip) 2 := ⟨⟨Tryd.f70, by kernel_rfl, by kernel_rfl, by kernel_rfl, rfl, by kernel_rfl⟩, by kernel_rfl, by decide⟩
theorem c (k : Nat) : Contract Tryd.prog 70 (fs k) :=
  fn_sound (ps := [(.list (.int .u32)), (.list (.int .u32))]) (rs := [(.list (.int .u32)), (.list (.int .u32)), (.int .i64)]) (pts := ptL) (fns := fns) (fgs := fgs) (fws := fws) (tys := tyTab) (main := fun k (x : (List Int) × (List Int)) => ref01_Div.f k x.1 x.2) ok mix tyOk ⟨⟨rfl, fun _ => rfl, fun k x => by kernel_rfl⟩, ⟨rfl, fun _ => rfl, fun k x => by kernel_rfl⟩, ⟨rfl, fun _ => rfl, fun k x => by kernel_rfl⟩, trivial⟩ (fun k x => by kernel_rfl) (fun k => ⟨⟨ref01_Norm.c k, ref01_Bit.c k, ref01_twice.c k, ref01_Cmp.c k, ref01_Sub.c k, trivial⟩, trivial, trivial⟩) k
end ref01_Div

namespace ref03_Norm
def s9 : PSig := ⟨0, [(27, (.st (.pair (.st (.pair .bool (.list (.int .u32)))) (.list (.int .u32)))), true)], [(2, .ptr 0 [])]⟩
def fws : Nat → List (FuncId × FW) := fun _ => []
def ptL : List (Pt (TD [(.st (.pair (.st (.pair .bool (.list (.int .u32)))) (.list (.int .u32))))])) := [⟨9, s9, fun k (x : ((Bool × (List Int)) × (List Int))) => ref03_Norm.p9 k x⟩]
def fns : Nat → List (FuncId × FS) := fun k => [(67, ⟨[(.st (.pair .bool (.list (.int .u32))))], [(.st (.pair .bool (.list (.int .u32))))], fun (x : (Bool × (List Int))) => ref02_Norm.f k x⟩), (68, ⟨[(.list (.int .u32))], [(.list (.int .u32))], fun (x : (List Int)) => ref01_Norm.f k x⟩), (69, ⟨[(.list (.int .u32)), (.list (.int .u32))], [(.list (.int .u32))], fun (x : (List Int) × (List Int)) => ref01_Gcd.f k x.1 x.2⟩), (70, ⟨[(.list (.int .u32)), (.list (.int .u32))], [(.list (.int .u32)), (.list (.int .u32)), (.int .i64)], fun (x : (List Int) × (List Int)) => ref01_Div.f k x.1 x.2⟩)]
def fgs : Nat → List (FuncId × FG) := fun _ => []
def fs (k : Nat) : FS := ⟨[(.st (.pair (.st (.pair .bool (.list (.int .u32)))) (.list (.int .u32))))], [(.st (.pair (.st (.pair .bool (.list (.int .u32)))) (.list (.int .u32))))], fun (x : ((Bool × (List Int)) × (List Int))) => ref03_Norm.f k x⟩
theorem ok : FnOk Tryd.prog 41 55 Tryd.f41.results.toList (Tryd.f41.body.getD .skip) 1 := ⟨⟨Tryd.f41, by kernel_rfl, by kernel_rfl, by kernel_rfl, rfl, by kernel_rfl⟩, by kernel_rfl, by decide⟩
theorem c (k : Nat) : Contract Tryd.prog 41 (fs k) :=
  fn_sound (ps := [(.st (.pair (.st (.pair .bool (.list (.int .u32)))) (.list (.int .u32))))]) (rs := [(.st (.pair (.st (.pair .bool (.list (.int .u32)))) (.list (.int .u32))))]) (pts := ptL) (fns := fns) (fgs := fgs) (fws := fws) (tys := tyTab) (main := fun k (x : ((Bool × (List Int)) × (List Int))) => ref03_Norm.f k x) ok mix tyOk ⟨⟨rfl, fun _ => rfl, fun k x => by kernel_rfl⟩, trivial⟩ (fun k x => by kernel_rfl) (fun k => ⟨⟨ref02_Norm.c k, ref01_Norm.c k, ref01_Gcd.c k, ref01_Div.c k, trivial⟩, trivial, trivial⟩) k
end ref03_Norm

namespace ref03_Whole
def fws : Nat → List (FuncId × FW) := fun _ => []
def ptL : List (Pt (TD [(.st (.pair (.st (.pair .bool (.list (.int .u32)))) (.list (.int .u32))))])) := []
def fns : Nat → List (FuncId × FS) := fun k => [(42, ⟨[(.int .i64)], [(.st (.pair .bool (.list (.int .u32))))], fun (x : Int) => ref02_Of.f k x⟩), (41, ⟨[(.st (.pair (.st (.pair .bool (.list (.int .u32)))) (.list (.int .u32))))], [(.st (.pair (.st (.pair .bool (.list (.int .u32)))) (.list (.int .u32))))], fun (x : ((Bool × (List Int)) × (List Int))) => ref03_Norm.f k x⟩)]
def fgs : Nat → List (FuncId × FG) := fun _ => []
def fs (k : Nat) : FS := ⟨[(.int .i64)], [(.st (.pair (.st (.pair .bool (.list (.int .u32)))) (.list (.int .u32))))], fun (x : Int) => ref03_Whole.f k x⟩
theorem ok : FnOk Tryd.prog 18 8 Tryd.f18.results.toList (Tryd.f18.body.getD .skip) 1 := ⟨⟨Tryd.f18, by kernel_rfl, by kernel_rfl, by kernel_rfl, rfl, by kernel_rfl⟩, by kernel_rfl, by decide⟩
theorem c (k : Nat) : Contract Tryd.prog 18 (fs k) :=
  fn_sound (ps := [(.int .i64)]) (rs := [(.st (.pair (.st (.pair .bool (.list (.int .u32)))) (.list (.int .u32))))]) (pts := ptL) (fns := fns) (fgs := fgs) (fws := fws) (tys := tyTab) (main := fun k (x : Int) => ref03_Whole.f k x) ok mix tyOk trivial (fun k x => by kernel_rfl) (fun k => ⟨⟨ref02_Of.c k, ref03_Norm.c k, trivial⟩, trivial, trivial⟩) k
end ref03_Whole

namespace ref01_Same
def s0 : PSig := ⟨0, [], [(0, .val (.list (.int .u32))), (1, .val (.list (.int .u32))), (5, .val (.int .i64))]⟩
def fws : Nat → List (FuncId × FW) := fun _ => []
def ptL : List (Pt (TD [.bool])) := [⟨0, s0, fun k (x : (List Int) × (List Int) × Int) => ref01_Same.p0 k x.1 x.2.1 x.2.2⟩]
def fns : Nat → List (FuncId × FS) := fun _ => []
def fgs : Nat → List (FuncId × FG) := fun _ => []
def fs (k : Nat) : FS := ⟨[(.list (.int .u32)), (.list (.int .u32))], [.bool], fun (x : (List Int) × (List Int)) => ref01_Same.f k x.1 x.2⟩
theorem ok : FnOk Tryd.prog 73 26 Tryd.f73.results.toList (Tryd.f73.body.getD .skip) 2 := ⟨⟨Tryd.f73, by kernel_rfl, by kernel_rfl, by kernel_rfl, rfl, by kernel_rfl⟩, by kernel_rfl, by decide⟩
theorem c (k : Nat) : Contract Tryd.prog 73 (fs k) :=
  fn_sound (ps := [(.list (.int .u32)), (.list (.int .u32))]) (rs := [.bool]) (pts := ptL) (fns := fns) (fgs := fgs) (fws := fws) (tys := tyTab) (main := fun k (x : (List Int) × (List Int)) => ref01_Same.f k x.1 x.2) ok mix tyOk ⟨⟨rfl, fun _ => rfl, fun k x => by kernel_rfl⟩, trivial⟩ (fun k x => by kernel_rfl) (fun _ => ⟨trivial, trivial, trivial⟩) k
end ref01_Same

namespace ref03_Same
def fws : Nat → List (FuncId × FW) := fun _ => []
def ptL : List (Pt (TD [.bool])) := []
def fns : Nat → List (FuncId × FS) := fun k => [(73, ⟨[(.list (.int .u32)), (.list (.int .u32))], [.bool], fun (x : (List Int) × (List Int)) => ref01_Same.f k x.1 x.2⟩)]
def fgs : Nat → List (FuncId × FG) := fun _ => []
def fs (k : Nat) : FS := ⟨[(.st (.pair (.st (.pair .bool (.list (.int .u32)))) (.list (.int .u32)))), (.st (.pair (.st (.pair .bool (.list (.int .u32)))) (.list (.int .u32))))], [.bool], fun (x : ((Bool × (List Int)) × (List Int)) × ((Bool × (List Int)) × (List Int))) => ref03_Same.f k x.1 x.2⟩
theorem ok : FnOk Tryd.prog 43 28 Tryd.f43.results.toList (Tryd.f43.body.getD .skip) 2 := ⟨⟨Tryd.f43, by kernel_rfl, by kernel_rfl, by kernel_rfl, rfl, by kernel_rfl⟩, by kernel_rfl, by decide⟩
theorem c (k : Nat) : Contract Tryd.prog 43 (fs k) :=
  fn_sound (ps := [(.st (.pair (.st (.pair .bool (.list (.int .u32)))) (.list (.int .u32)))), (.st (.pair (.st (.pair .bool (.list (.int .u32)))) (.list (.int .u32))))]) (rs := [.bool]) (pts := ptL) (fns := fns) (fgs := fgs) (fws := fws) (tys := tyTab) (main := fun k (x : ((Bool × (List Int)) × (List Int)) × ((Bool × (List Int)) × (List Int))) => ref03_Same.f k x.1 x.2) ok mix tyOk trivial (fun k x => by kernel_rfl) (fun k => ⟨⟨ref01_Same.c k, trivial⟩, trivial, trivial⟩) k
end ref03_Same

namespace ref05_Same
def fws : Nat → List (FuncId × FW) := fun _ => []
def ptL : List (Pt (TD [.bool])) := []
def fns : Nat → List (FuncId × FS) := fun k => [(43, ⟨[(.st (.pair (.st (.pair .bool (.list (.int .u32)))) (.list (.int .u32)))), (.st (.pair (.st (.pair .bool (.list (.int .u32)))) (.list (.int .u32))))], [.bool], fun (x : ((Bool × (List Int)) × (List Int)) × ((Bool × (List Int)) × (List Int))) => ref03_Same.f k x.1 x.2⟩)]
def fgs : Nat → List (FuncId × FG) := fun _ => []
def fs (k : Nat) : FS := ⟨[(.st (.pair (.st (.pair (.st (.pair .bool (.list (.int .u32)))) (.list (.int .u32)))) (.st (.pair (.st (.pair .bool (.list (.int .u32)))) (.list (.int .u32)))))), (.st (.pair (.st (.pair (.st (.pair .bool (.list (.int .u32)))) (.list (.int .u32)))) (.st (.pair (.st (.pair .bool (.list (.int .u32)))) (.list (.int .u32))))))], [.bool], fun (x : (((Bool × (List Int)) × (List Int)) × ((Bool × (List Int)) × (List Int))) × (((Bool × (List Int)) × (List Int)) × ((Bool × (List Int)) × (List Int)))) => ref05_Same.f k x.1 x.2⟩
theorem ok : FnOk Tryd.prog 19 17 Tryd.f19.results.toList (Tryd.f19.body.getD .skip) 2 := ⟨⟨Tryd.f19, by kernel_rfl, by kernel_rfl, by kernel_rfl, rfl, by kernel_rfl⟩, by kernel_rfl, by decide⟩
theorem c (k : Nat) : Contract Tryd.prog 19 (fs k) :=
  fn_sound (ps := [(.st (.pair (.st (.pair (.st (.pair .bool (.list (.int .u32)))) (.list (.int .u32)))) (.st (.pair (.st (.pair .bool (.list (.int .u32)))) (.list (.int .u32)))))), (.st (.pair (.st (.pair (.st (.pair .bool (.list (.int .u32)))) (.list (.int .u32)))) (.st (.pair (.st (.pair .bool (.list (.int .u32)))) (.list (.int .u32))))))]) (rs := [.bool]) (pts := ptL) (fns := fns) (fgs := fgs) (fws := fws) (tys := tyTab) (main := fun k (x : (((Bool × (List Int)) × (List Int)) × ((Bool × (List Int)) × (List Int))) × (((Bool × (List Int)) × (List Int)) × ((Bool × (List Int)) × (List Int)))) => ref05_Same.f k x.1 x.2) ok mix tyOk trivial (fun k x => by kernel_rfl) (fun k => ⟨⟨ref03_Same.c k, trivial⟩, trivial, trivial⟩) k
end ref05_Same

namespace law05_same
def fws : Nat → List (FuncId × FW) := fun _ => []
def ptL : List (Pt (TD [.bool])) := []
def fns : Nat → List (FuncId × FS) := fun k => [(19, ⟨[(.st (.pair (.st (.pair (.st (.pair .bool (.list (.int .u32)))) (.list (.int .u32)))) (.st (.pair (.st (.pair .bool (.list (.int .u32)))) (.list (.int .u32)))))), (.st (.pair (.st (.pair (.st (.pair .bool (.list (.int .u32)))) (.list (.int .u32)))) (.st (.pair (.st (.pair .bool (.list (.int .u32)))) (.list (.int .u32))))))], [.bool], fun (x : (((Bool × (List Int)) × (List Int)) × ((Bool × (List Int)) × (List Int))) × (((Bool × (List Int)) × (List Int)) × ((Bool × (List Int)) × (List Int)))) => ref05_Same.f k x.1 x.2⟩)]
def fgs : Nat → List (FuncId × FG) := fun _ => []
def fs (k : Nat) : FS := ⟨[(.st (.pair (.st (.pair (.st (.pair .bool (.list (.int .u32)))) (.list (.int .u32)))) (.st (.pair (.st (.pair .bool (.list (.int .u32)))) (.list (.int .u32)))))), (.st (.pair (.st (.pair (.st (.pair .bool (.list (.int .u32)))) (.list (.int .u32)))) (.st (.pair (.st (.pair .bool (.list (.int .u32)))) (.list (.int .u32))))))], [.bool], fun (x : (((Bool × (List Int)) × (List Int)) × ((Bool × (List Int)) × (List Int))) × (((Bool × (List Int)) × (List Int)) × ((Bool × (List Int)) × (List Int)))) => law05_same.f k x.1 x.2⟩
theorem ok : FnOk Tryd.prog 9 8 Tryd.f9.results.toList (Tryd.f9.body.getD .skip) 2 := ⟨⟨Tryd.f9, by kernel_rfl, by kernel_rfl, by kernel_rfl, rfl, by kernel_rfl⟩, by kernel_rfl, by decide⟩
theorem c (k : Nat) : Contract Tryd.prog 9 (fs k) :=
  fn_sound (ps := [(.st (.pair (.st (.pair (.st (.pair .bool (.list (.int .u32)))) (.list (.int .u32)))) (.st (.pair (.st (.pair .bool (.list (.int .u32)))) (.list (.int .u32)))))), (.st (.pair (.st (.pair (.st (.pair .bool (.list (.int .u32)))) (.list (.int .u32)))) (.st (.pair (.st (.pair .bool (.list (.int .u32)))) (.list (.int .u32))))))]) (rs := [.bool]) (pts := ptL) (fns := fns) (fgs := fgs) (fws := fws) (tys := tyTab) (main := fun k (x : (((Bool × (List Int)) × (List Int)) × ((Bool × (List Int)) × (List Int))) × (((Bool × (List Int)) × (List Int)) × ((Bool × (List Int)) × (List Int)))) => law05_same.f k x.1 x.2) ok mix tyOk trivial (fun k x => by kernel_rfl) (fun k => ⟨⟨ref05_Same.c k, trivial⟩, trivial, trivial⟩) k
end law05_same

namespace law05_lives
def fws : Nat → List (FuncId × FW) := fun _ => []
def ptL : List (Pt (TD [.bool])) := []
def fns : Nat → List (FuncId × FS) := fun k => [(5, ⟨[.str], [(.st (.pair (.st (.pair (.st (.pair .bool (.list (.int .u32)))) (.list (.int .u32)))) (.st (.pair (.st (.pair .bool (.list (.int .u32)))) (.list (.int .u32)))))), (.int .i64)], fun (x : ByteArray) => delta_Parse.f k x⟩), (18, ⟨[(.int .i64)], [(.st (.pair (.st (.pair .bool (.list (.int .u32)))) (.list (.int .u32))))], fun (x : Int) => ref03_Whole.f k x⟩), (9, ⟨[(.st (.pair (.st (.pair (.st (.pair .bool (.list (.int .u32)))) (.list (.int .u32)))) (.st (.pair (.st (.pair .bool (.list (.int .u32)))) (.list (.int .u32)))))), (.st (.pair (.st (.pair (.st (.pair .bool (.list (.int .u32)))) (.list (.int .u32)))) (.st (.pair (.st (.pair .bool (.list (.int .u32)))) (.list (.int .u32))))))], [.bool], fun (x : (((Bool × (List Int)) × (List Int)) × ((Bool × (List Int)) × (List Int))) × (((Bool × (List Int)) × (List Int)) × ((Bool × (List Int)) × (List Int)))) => law05_same.f k x.1 x.2⟩)]
def fgs : Nat → List (FuncId × FG) := fun _ => []
def fs (k : Nat) : FS := ⟨[], [.bool], fun (x : Unit) => law05_lives.f k x⟩
theorem ok : FnOk Tryd.prog 8 16 Tryd.f8.results.toList (Tryd.f8.body.getD .skip) 0 := ⟨⟨Tryd.f8, by kernel_rfl, by kernel_rfl, by kernel_rfl, rfl, by kernel_rfl⟩, by kernel_rfl, by decide⟩
theorem c (k : Nat) : Contract Tryd.prog 8 (fs k) :=
  fn_sound (ps := []) (rs := [.bool]) (pts := ptL) (fns := fns) (fgs := fgs) (fws := fws) (tys := tyTab) (main := fun k (x : Unit) => law05_lives.f k x) ok mix tyOk trivial (fun k x => by kernel_rfl) (fun k => ⟨⟨delta_Parse.c k, ref03_Whole.c k, law05_same.c k, trivial⟩, trivial, trivial⟩) k
end law05_lives

namespace law05_DeltaBack
def fws : Nat → List (FuncId × FW) := fun _ => []
def ptL : List (Pt (TD [.bool])) := []
def fns : Nat → List (FuncId × FS) := fun k => [(4, ⟨[(.st (.pair (.st (.pair (.st (.pair .bool (.list (.int .u32)))) (.list (.int .u32)))) (.st (.pair (.st (.pair .bool (.list (.int .u32)))) (.list (.int .u32))))))], [(.st (.pair (.st (.pair (.st (.pair .bool (.list (.int .u32)))) (.list (.int .u32)))) (.st (.pair (.st (.pair .bool (.list (.int .u32)))) (.list (.int .u32))))))], fun (x : (((Bool × (List Int)) × (List Int)) × ((Bool × (List Int)) × (List Int)))) => law05_within.f k x⟩), (7, ⟨[(.st (.pair (.st (.pair (.st (.pair .bool (.list (.int .u32)))) (.list (.int .u32)))) (.st (.pair (.st (.pair .bool (.list (.int .u32)))) (.list (.int .u32))))))], [(.st (.pair (.st (.pair (.st (.pair .bool (.list (.int .u32)))) (.list (.int .u32)))) (.st (.pair (.st (.pair .bool (.list (.int .u32)))) (.list (.int .u32))))))], fun (x : (((Bool × (List Int)) × (List Int)) × ((Bool × (List Int)) × (List Int)))) => law05_twin.f k x⟩), (6, ⟨[(.st (.pair (.st (.pair (.st (.pair .bool (.list (.int .u32)))) (.list (.int .u32)))) (.st (.pair (.st (.pair .bool (.list (.int .u32)))) (.list (.int .u32))))))], [.str], fun (x : (((Bool × (List Int)) × (List Int)) × ((Bool × (List Int)) × (List Int)))) => delta_Text.f k x⟩), (5, ⟨[.str], [(.st (.pair (.st (.pair (.st (.pair .bool (.list (.int .u32)))) (.list (.int .u32)))) (.st (.pair (.st (.pair .bool (.list (.int .u32)))) (.list (.int .u32)))))), (.int .i64)], fun (x : ByteArray) => delta_Parse.f k x⟩), (8, ⟨[], [.bool], fun (x : Unit) => law05_lives.f k x⟩), (10, ⟨[(.st (.pair (.st (.pair (.st (.pair .bool (.list (.int .u32)))) (.list (.int .u32)))) (.st (.pair (.st (.pair .bool (.list (.int .u32)))) (.list (.int .u32))))))], [(.st (.pair (.st (.pair (.st (.pair .bool (.list (.int .u32)))) (.list (.int .u32)))) (.st (.pair (.st (.pair .bool (.list (.int .u32)))) (.list (.int .u32))))))], fun (x : (((Bool × (List Int)) × (List Int)) × ((Bool × (List Int)) × (List Int)))) => delta_Norm.f k x⟩), (9, ⟨[(.st (.pair (.st (.pair (.st (.pair .bool (.list (.int .u32)))) (.list (.int .u32)))) (.st (.pair (.st (.pair .bool (.list (.int .u32)))) (.list (.int .u32)))))), (.st (.pair (.st (.pair (.st (.pair .bool (.list (.int .u32)))) (.list (.int .u32)))) (.st (.pair (.st (.pair .bool (.list (.int .u32)))) (.list (.int .u32))))))], [.bool], fun (x : (((Bool × (List Int)) × (List Int)) × ((Bool × (List Int)) × (List Int))) × (((Bool × (List Int)) × (List Int)) × ((Bool × (List Int)) × (List Int)))) => law05_same.f k x.1 x.2⟩)]
def fgs : Nat → List (FuncId × FG) := fun _ => []
def fs (k : Nat) : FS := ⟨[(.st (.pair (.st (.pair (.st (.pair .bool (.list (.int .u32)))) (.list (.int .u32)))) (.st (.pair (.st (.pair .bool (.list (.int .u32)))) (.list (.int .u32))))))], [.bool], fun (x : (((Bool × (List Int)) × (List Int)) × ((Bool × (List Int)) × (List Int)))) => law05_DeltaBack.f k x⟩
theorem ok : FnOk Tryd.prog 3 26 Tryd.f3.results.toList (Tryd.f3.body.getD .skip) 1 := ⟨⟨Tryd.f3, by kernel_rfl, by kernel_rfl, by kernel_rfl, rfl, by kernel_rfl⟩, by kernel_rfl, by decide⟩
theorem c (k : Nat) : Contract Tryd.prog 3 (fs k) :=
  fn_sound (ps := [(.st (.pair (.st (.pair (.st (.pair .bool (.list (.int .u32)))) (.list (.int .u32)))) (.st (.pair (.st (.pair .bool (.list (.int .u32)))) (.list (.int .u32))))))]) (rs := [.bool]) (pts := ptL) (fns := fns) (fgs := fgs) (fws := fws) (tys := tyTab) (main := fun k (x : (((Bool × (List Int)) × (List Int)) × ((Bool × (List Int)) × (List Int)))) => law05_DeltaBack.f k x) ok mix tyOk trivial (fun k x => by kernel_rfl) (fun k => ⟨⟨law05_within.c k, law05_twin.c k, delta_Text.c k, delta_Parse.c k, law05_lives.c k, delta_Norm.c k, law05_same.c k, trivial⟩, trivial, trivial⟩) k
end law05_DeltaBack
end Go.Proofs.YtfalcbkhleobdaaDoor
