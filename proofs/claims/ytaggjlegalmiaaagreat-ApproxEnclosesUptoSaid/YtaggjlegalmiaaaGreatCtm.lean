/- Contracts, printed by fgen.py. -/
import Derived.Test.YtaggjlegalmiaaaGreatPlm
import Derived.Test.YtaggjlegalmiaaaGreatProg
namespace Go.Proofs.YtaggjlegalmiaaaGreat
open Go.FK
theorem mix : Tryz.prog.follows .mixedOrders = true ∧ ArrsOk Tryz.prog := ⟨by kernel_rfl, arrsB_ok (by kernel_rfl)⟩
def tyTab : List (TypeId × TI) := [(2, ⟨(.int .i64), 0, 0⟩), (3, ⟨(.int .i64), 0, 0⟩), (4, ⟨.bool, 0, 0⟩), (5, ⟨(.int .u8), 0, 0⟩), (9, ⟨.str, 0, 0⟩), (23, ⟨(.list (.int .u32)), 80, 4⟩), (25, ⟨(.st (.pair .bool (.list (.int .u32)))), 0, 0⟩), (27, ⟨(.st (.pair (.st (.pair .bool (.list (.int .u32)))) (.list (.int .u32)))), 0, 0⟩), (28, ⟨.flt, 0, 0⟩), (30, ⟨(.st (.pair .flt .flt)), 0, 0⟩), (35, ⟨(.int .i64), 0, 0⟩), (39, ⟨(.st (.pair (.st (.pair .flt .flt)) (.pair (.st (.pair .flt .flt)) (.pair (.st (.pair (.st (.pair .bool (.list (.int .u32)))) (.list (.int .u32)))) (.st (.pair (.st (.pair .bool (.list (.int .u32)))) (.list (.int .u32)))))))), 0, 0⟩), (47, ⟨(.st (.pair (.int .i64) (.st (.pair (.st (.pair .bool (.list (.int .u32)))) (.list (.int .u32)))))), 0, 0⟩), (52, ⟨(.st (.pair (.int .i64) (.st (.pair (.st (.pair .bool (.list (.int .u32)))) (.list (.int .u32)))))), 0, 0⟩), (56, ⟨(.int .u64), 0, 0⟩), (67, ⟨(.st (.pair (.st (.pair (.int .i64) (.st (.pair (.st (.pair .bool (.list (.int .u32)))) (.list (.int .u32)))))) (.pair (.st (.pair (.int .i64) (.st (.pair (.st (.pair .bool (.list (.int .u32)))) (.list (.int .u32)))))) (.pair (.st (.pair (.int .i64) (.st (.pair (.st (.pair .bool (.list (.int .u32)))) (.list (.int .u32)))))) (.st (.pair (.int .i64) (.st (.pair (.st (.pair .bool (.list (.int .u32)))) (.list (.int .u32)))))))))), 52, 4⟩), (80, ⟨(.int .u32), 0, 0⟩), (85, ⟨(.list (.st (.pair (.int .i64) (.st (.pair (.st (.pair .bool (.list (.int .u32)))) (.list (.int .u32))))))), 47, 64⟩), (87, ⟨(.st (.pair .flt .flt)), 28, 2⟩), (94, ⟨(.int .u64), 0, 0⟩), (125, ⟨(.list (.int .i64)), 3, 8⟩)]
theorem tyOk : tysB Tryz.prog tyTab = true := by kernel_rfl

namespace nat_trim
def s0 : PSig := ⟨0, [], [(0, .val (.list (.int .u32))), (3, .val (.int .i64))]⟩
def s9 : PSig := ⟨0, [], [(0, .val (.list (.int .u32))), (3, .val (.int .i64))]⟩
def fws : Nat → List (FuncId × FW) := fun _ => []
def ptL : List (Pt (TD [(.list (.int .u32))])) := [⟨0, s0, fun k (x : (List Int) × Int) => nat_trim.p0 k x.1 x.2⟩, ⟨9, s9, fun k (x : (List Int) × Int) => nat_trim.p9 k x.1 x.2⟩]
def fns : Nat → List (FuncId × FS) := fun _ => []
def fgs : Nat → List (FuncId × FG) := fun _ => []
def fs (k : Nat) : FS := ⟨[(.list (.int .u32))], [(.list (.int .u32))], fun (x : (List Int)) => nat_trim.f k x⟩
theorem ok : FnOk Tryz.prog 132 21 Tryz.f132.results.toList (Tryz.f132.body.getD .skip) 1 := ⟨⟨Tryz.f132, by kernel_rfl, by kernel_rfl, by kernel_rfl, rfl, by kernel_rfl⟩, by kernel_rfl, by decide⟩
theorem c (k : Nat) : Contract Tryz.prog 132 (fs k) :=
  fn_sound (ps := [(.list (.int .u32))]) (rs := [(.list (.int .u32))]) (pts := ptL) (fns := fns) (fgs := fgs) (fws := fws) (tys := tyTab) (main := fun k (x : (List Int)) => nat_trim.f k x) ok mix tyOk ⟨⟨rfl, fun _ => rfl, fun k x => by kernel_rfl⟩, ⟨rfl, fun _ => rfl, fun k x => by kernel_rfl⟩, trivial⟩ (fun k x => by kernel_rfl) (fun _ => ⟨trivial, trivial, trivial⟩) k
end nat_trim

namespace bits_Len32
def s9 : PSig := ⟨0, [], [(0, .val (.int .u32)), (2, .val (.int .i64))]⟩
def s15 : PSig := ⟨0, [], [(0, .val (.int .u32)), (2, .val (.int .i64))]⟩
def fws : Nat → List (FuncId × FW) := fun _ => []
def ptL : List (Pt (TD [(.int .i64)])) := [⟨9, s9, fun k (x : Int × Int) => bits_Len32.p9 k x.1 x.2⟩, ⟨15, s15, fun k (x : Int × Int) => bits_Len32.p15 k x.1 x.2⟩]
def fns : Nat → List (FuncId × FS) := fun _ => []
def fgs : Nat → List (FuncId × FG) := fun _ => []
def fs (k : Nat) : FS := ⟨[(.int .u32)], [(.int .i64)], fun (x : Int) => bits_Len32.f k x⟩
theorem ok : FnOk Tryz.prog 133 19 Tryz.f133.results.toList (Tryz.f133.body.getD .skip) 1 := ⟨⟨Tryz.f133, by kernel_rfl, by kernel_rfl, by kernel_rfl, rfl, by kernel_rfl⟩, by kernel_rfl, by decide⟩
theorem c (k : Nat) : Contract Tryz.prog 133 (fs k) :=
  fn_sound (ps := [(.int .u32)]) (rs := [(.int .i64)]) (pts := ptL) (fns := fns) (fgs := fgs) (fws := fws) (tys := tyTab) (main := fun k (x : Int) => bits_Len32.f k x) ok mix tyOk ⟨⟨rfl, fun _ => rfl, fun k x => by kernel_rfl⟩, ⟨rfl, fun _ => rfl, fun k x => by kernel_rfl⟩, trivial⟩ (fun k x => by kernel_rfl) (fun _ => ⟨trivial, trivial, trivial⟩) k
end bits_Len32

namespace nat_Bits
def fws : Nat → List (FuncId × FW) := fun _ => []
def ptL : List (Pt (TD [(.int .i64)])) := []
def fns : Nat → List (FuncId × FS) := fun k => [(132, ⟨[(.list (.int .u32))], [(.list (.int .u32))], fun (x : (List Int)) => nat_trim.f k x⟩), (133, ⟨[(.int .u32)], [(.int .i64)], fun (x : Int) => bits_Len32.f k x⟩)]
def fgs : Nat → List (FuncId × FG) := fun _ => []
def fs (k : Nat) : FS := ⟨[(.list (.int .u32))], [(.int .i64)], fun (x : (List Int)) => nat_Bits.f k x⟩
theorem ok : FnOk Tryz.prog 111 20 Tryz.f111.results.toList (Tryz.f111.body.getD .skip) 1 := ⟨⟨Tryz.f111, by kernel_rfl, by kernel_rfl, by kernel_rfl, rfl, by kernel_rfl⟩, by kernel_rfl, by decide⟩
theorem c (k : Nat) : Contract Tryz.prog 111 (fs k) :=
  fn_sound (ps := [(.list (.int .u32))]) (rs := [(.int .i64)]) (pts := ptL) (fns := fns) (fgs := fgs) (fws := fws) (tys := tyTab) (main := fun k (x : (List Int)) => nat_Bits.f k x) ok mix tyOk trivial (fun k x => by kernel_rfl) (fun k => ⟨⟨nat_trim.c k, bits_Len32.c k, trivial⟩, trivial, trivial⟩) k
end nat_Bits

namespace nat_own
def fws : Nat → List (FuncId × FW) := fun _ => []
def ptL : List (Pt (TD [(.list (.int .u32))])) := []
def fns : Nat → List (FuncId × FS) := fun k => [(132, ⟨[(.list (.int .u32))], [(.list (.int .u32))], fun (x : (List Int)) => nat_trim.f k x⟩)]
def fgs : Nat → List (FuncId × FG) := fun _ => []
def fs (k : Nat) : FS := ⟨[(.list (.int .u32))], [(.list (.int .u32))], fun (x : (List Int)) => nat_own.f k x⟩
theorem ok : FnOk Tryz.prog 122 16 Tryz.f122.results.toList (Tryz.f122.body.getD .skip) 1 := ⟨⟨Tryz.f122, by kernel_rfl, by kernel_rfl, by kernel_rfl, rfl, by kernel_rfl⟩, by kernel_rfl, by decide⟩
theorem c (k : Nat) : Contract Tryz.prog 122 (fs k) :=
  fn_sound (ps := [(.list (.int .u32))]) (rs := [(.list (.int .u32))]) (pts := ptL) (fns := fns) (fgs := fgs) (fws := fws) (tys := tyTab) (main := fun k (x : (List Int)) => nat_own.f k x) ok mix tyOk trivial (fun k x => by kernel_rfl) (fun k => ⟨⟨nat_trim.c k, trivial⟩, trivial, trivial⟩) k
def fw (k : Nat) : FW := ⟨[(.list (.int .u32))], 80, (.int .u32), false, fun (x : (List Int)) => nat_own.f k x⟩
def ptW : List (Pt (List (Ty.D (.int .u32)))) := []
theorem cw (k : Nat) : ContractW Tryz.prog 122 (fw k) :=
  fn_soundW (ps := [(.list (.int .u32))]) (e := 80) (t := (.int .u32)) (bx := false) (pts := ptW) (fns := fns) (fgs := fgs) (fws := fws) (tys := tyTab) (main := fun k (x : (List Int)) => nat_own.f k x) ok mix tyOk trivial (fun k x => by kernel_rfl) (fun k => ⟨⟨nat_trim.c k, trivial⟩, trivial, trivial⟩) k
end nat_own

namespace nat_Cmp
def s0 : PSig := ⟨0, [], [(0, .val (.list (.int .u32))), (1, .val (.list (.int .u32))), (5, .val (.int .i64))]⟩
def fws : Nat → List (FuncId × FW) := fun _ => []
def ptL : List (Pt (TD [(.int .i64)])) := [⟨0, s0, fun k (x : (List Int) × (List Int) × Int) => nat_Cmp.p0 k x.1 x.2.1 x.2.2⟩]
def fns : Nat → List (FuncId × FS) := fun k => [(132, ⟨[(.list (.int .u32))], [(.list (.int .u32))], fun (x : (List Int)) => nat_trim.f k x⟩)]
def fgs : Nat → List (FuncId × FG) := fun _ => []
def fs (k : Nat) : FS := ⟨[(.list (.int .u32)), (.list (.int .u32))], [(.int .i64)], fun (x : (List Int) × (List Int)) => nat_Cmp.f k x.1 x.2⟩
theorem ok : FnOk Tryz.prog 114 45 Tryz.f114.results.toList (Tryz.f114.body.getD .skip) 2 := ⟨⟨Tryz.f114, by kernel_rfl, by kernel_rfl, by kernel_rfl, rfl, by kernel_rfl⟩, by kernel_rfl, by decide⟩
theorem c (k : Nat) : Contract Tryz.prog 114 (fs k) :=
  fn_sound (ps := [(.list (.int .u32)), (.list (.int .u32))]) (rs := [(.int .i64)]) (pts := ptL) (fns := fns) (fgs := fgs) (fws := fws) (tys := tyTab) (main := fun k (x : (List Int) × (List Int)) => nat_Cmp.f k x.1 x.2) ok mix tyOk ⟨⟨rfl, fun _ => rfl, fun k x => by kernel_rfl⟩, trivial⟩ (fun k x => by kernel_rfl) (fun k => ⟨⟨nat_trim.c k, trivial⟩, trivial, trivial⟩) k
end nat_Cmp

namespace bits_Div32
def s7 : PSig := ⟨0, [], [(0, .val (.int .u32)), (1, .val (.int .u32)), (2, .val (.int .u32))]⟩
def fws : Nat → List (FuncId × FW) := fun _ => []
def ptL : List (Pt (TD [(.int .u32), (.int .u32)])) := [⟨7, s7, fun k (x : Int × Int × Int) => bits_Div32.p7 k x.1 x.2.1 x.2.2⟩]
def fns : Nat → List (FuncId × FS) := fun _ => []
def fgs : Nat → List (FuncId × FG) := fun _ => []
def fs (k : Nat) : FS := ⟨[(.int .u32), (.int .u32), (.int .u32)], [(.int .u32), (.int .u32)], fun (x : Int × Int × Int) => bits_Div32.f k x.1 x.2.1 x.2.2⟩
theorem ok : FnOk Tryz.prog 140 33 Tryz.f140.results.toList (Tryz.f140.body.getD .skip) 3 := ⟨⟨Tryz.f140, by kernel_rfl, by kernel_rfl, by kernel_rfl, rfl, by kernel_rfl⟩, by kernel_rfl, by decide⟩
theorem c (k : Nat) : Contract Tryz.prog 140 (fs k) :=
  fn_sound (ps := [(.int .u32), (.int .u32), (.int .u32)]) (rs := [(.int .u32), (.int .u32)]) (pts := ptL) (fns := fns) (fgs := fgs) (fws := fws) (tys := tyTab) (main := fun k (x : Int × Int × Int) => bits_Div32.f k x.1 x.2.1 x.2.2) ok mix tyOk ⟨⟨rfl, fun _ => rfl, fun k x => by kernel_rfl⟩, trivial⟩ (fun k x => by kernel_rfl) (fun _ => ⟨trivial, trivial, trivial⟩) k
end bits_Div32

namespace nat_short
def s0 : PSig := ⟨0, [(80, (.int .u32), false)], [(0, .val (.list (.int .u32))), (1, .val (.int .u32)), (6, .own 0), (7, .val (.int .u32)), (8, .val (.int .i64))]⟩
def fws : Nat → List (FuncId × FW) := fun _ => []
def ptL : List (Pt (TD [(.list (.int .u32)), (.int .u32)])) := [⟨0, s0, fun k (x : (List Int) × (List Int) × Int × Int × Int) => nat_short.p0 k x.1 x.2.1 x.2.2.1 x.2.2.2.1 x.2.2.2.2⟩]
def fns : Nat → List (FuncId × FS) := fun k => [(140, ⟨[(.int .u32), (.int .u32), (.int .u32)], [(.int .u32), (.int .u32)], fun (x : Int × Int × Int) => bits_Div32.f k x.1 x.2.1 x.2.2⟩)]
def fgs : Nat → List (FuncId × FG) := fun _ => []
def fs (k : Nat) : FS := ⟨[(.list (.int .u32)), (.int .u32)], [(.list (.int .u32)), (.int .u32)], fun (x : (List Int) × Int) => nat_short.f k x.1 x.2⟩
theorem ok : FnOk Tryz.prog 138 34 Tryz.f138.results.toList (Tryz.f138.body.getD .skip) 2 := ⟨⟨Tryz.f138, by kernel_rfl, by kernel_rfl, by kernel_rfl, rfl, by kernel_rfl⟩, by kernel_rfl, by decide⟩
theorem c (k : Nat) : Contract Tryz.prog 138 (fs k) :=
  fn_sound (ps := [(.list (.int .u32)), (.int .u32)]) (rs := [(.list (.int .u32)), (.int .u32)]) (pts := ptL) (fns := fns) (fgs := fgs) (fws := fws) (tys := tyTab) (main := fun k (x : (List Int) × Int) => nat_short.f k x.1 x.2) ok mix tyOk ⟨⟨rfl, fun _ => rfl, fun k x => by kernel_rfl⟩, trivial⟩ (fun k x => by kernel_rfl) (fun k => ⟨⟨bits_Div32.c k, trivial⟩, trivial, trivial⟩) k
end nat_short

namespace bits_LeadingZeros32
def fws : Nat → List (FuncId × FW) := fun _ => []
def ptL : List (Pt (TD [(.int .i64)])) := []
def fns : Nat → List (FuncId × FS) := fun k => [(133, ⟨[(.int .u32)], [(.int .i64)], fun (x : Int) => bits_Len32.f k x⟩)]
def fgs : Nat → List (FuncId × FG) := fun _ => []
def fs (k : Nat) : FS := ⟨[(.int .u32)], [(.int .i64)], fun (x : Int) => bits_LeadingZeros32.f k x⟩
theorem ok : FnOk Tryz.prog 141 6 Tryz.f141.results.toList (Tryz.f141.body.getD .skip) 1 := ⟨⟨Tryz.f141, by kernel_rfl, by kernel_rfl, by kernel_rfl, rfl, by kernel_rfl⟩, by kernel_rfl, by decide⟩
theorem c (k : Nat) : Contract Tryz.prog 141 (fs k) :=
  fn_sound (ps := [(.int .u32)]) (rs := [(.int .i64)]) (pts := ptL) (fns := fns) (fgs := fgs) (fws := fws) (tys := tyTab) (main := fun k (x : Int) => bits_LeadingZeros32.f k x) ok mix tyOk trivial (fun k x => by kernel_rfl) (fun k => ⟨⟨bits_Len32.c k, trivial⟩, trivial, trivial⟩) k
end bits_LeadingZeros32

namespace nat_moved
def s0 : PSig := ⟨0, [(80, (.int .u32), false)], [(0, .val (.list (.int .u32))), (1, .val (.int .i64)), (5, .own 0), (12, .val (.int .i64)), (13, .val (.int .i64))]⟩
def fws : Nat → List (FuncId × FW) := fun _ => []
def ptL : List (Pt (TD [(.list (.int .u32))])) := [⟨0, s0, fun k (x : (List Int) × (List Int) × Int × Int × Int) => nat_moved.p0 k x.1 x.2.1 x.2.2.1 x.2.2.2.1 x.2.2.2.2⟩]
def fns : Nat → List (FuncId × FS) := fun _ => []
def fgs : Nat → List (FuncId × FG) := fun _ => []
def fs (k : Nat) : FS := ⟨[(.list (.int .u32)), (.int .i64)], [(.list (.int .u32))], fun (x : (List Int) × Int) => nat_moved.f k x.1 x.2⟩
theorem ok : FnOk Tryz.prog 136 43 Tryz.f136.results.toList (Tryz.f136.body.getD .skip) 2 := ⟨⟨Tryz.f136, by kernel_rfl, by kernel_rfl, by kernel_rfl, rfl, by kernel_rfl⟩, by kernel_rfl, by decide⟩
theorem c (k : Nat) : Contract Tryz.prog 136 (fs k) :=
  fn_sound (ps := [(.list (.int .u32)), (.int .i64)]) (rs := [(.list (.int .u32))]) (pts := ptL) (fns := fns) (fgs := fgs) (fws := fws) (tys := tyTab) (main := fun k (x : (List Int) × Int) => nat_moved.f k x.1 x.2) ok mix tyOk ⟨⟨rfl, fun _ => rfl, fun k x => by kernel_rfl⟩, trivial⟩ (fun k x => by kernel_rfl) (fun _ => ⟨trivial, trivial, trivial⟩) k
def fw (k : Nat) : FW := ⟨[(.list (.int .u32)), (.int .i64)], 80, (.int .u32), false, fun (x : (List Int) × Int) => nat_moved.f k x.1 x.2⟩
def ptW : List (Pt (List (Ty.D (.int .u32)))) := [⟨0, s0, fun k (x : (List Int) × (List Int) × Int × Int × Int) => nat_moved.p0 k x.1 x.2.1 x.2.2.1 x.2.2.2.1 x.2.2.2.2⟩]
theorem cw (k : Nat) : ContractW Tryz.prog 136 (fw k) :=
  fn_soundW (ps := [(.list (.int .u32)), (.int .i64)]) (e := 80) (t := (.int .u32)) (bx := false) (pts := ptW) (fns := fns) (fgs := fgs) (fws := fws) (tys := tyTab) (main := fun k (x : (List Int) × Int) => nat_moved.f k x.1 x.2) ok mix tyOk ⟨⟨rfl, fun _ => rfl, fun k x => by kernel_rfl⟩, trivial⟩ (fun k x => by kernel_rfl) (fun _ => ⟨trivial, trivial, trivial⟩) k
end nat_moved

namespace bits_Sub32
def fws : Nat → List (FuncId × FW) := fun _ => []
def ptL : List (Pt (TD [(.int .u32), (.int .u32)])) := []
def fns : Nat → List (FuncId × FS) := fun _ => []
def fgs : Nat → List (FuncId × FG) := fun _ => []
def fs (k : Nat) : FS := ⟨[(.int .u32), (.int .u32), (.int .u32)], [(.int .u32), (.int .u32)], fun (x : Int × Int × Int) => bits_Sub32.f k x.1 x.2.1 x.2.2⟩
theorem ok : FnOk Tryz.prog 137 25 Tryz.f137.results.toList (Tryz.f137.body.getD .skip) 3 := ⟨⟨Tryz.f137, by kernel_rfl, by kernel_rfl, by kernel_rfl, rfl, by kernel_rfl⟩, by kernel_rfl, by decide⟩
theorem c (k : Nat) : Contract Tryz.prog 137 (fs k) :=
  fn_sound (ps := [(.int .u32), (.int .u32), (.int .u32)]) (rs := [(.int .u32), (.int .u32)]) (pts := ptL) (fns := fns) (fgs := fgs) (fws := fws) (tys := tyTab) (main := fun k (x : Int × Int × Int) => bits_Sub32.f k x.1 x.2.1 x.2.2) ok mix tyOk trivial (fun k x => by kernel_rfl) (fun _ => ⟨trivial, trivial, trivial⟩) k
end bits_Sub32

namespace bits_Add32
def fws : Nat → List (FuncId × FW) := fun _ => []
def ptL : List (Pt (TD [(.int .u32), (.int .u32)])) := []
def fns : Nat → List (FuncId × FS) := fun _ => []
def fgs : Nat → List (FuncId × FG) := fun _ => []
def fs (k : Nat) : FS := ⟨[(.int .u32), (.int .u32), (.int .u32)], [(.int .u32), (.int .u32)], fun (x : Int × Int × Int) => bits_Add32.f k x.1 x.2.1 x.2.2⟩
theorem ok : FnOk Tryz.prog 134 22 Tryz.f134.results.toList (Tryz.f134.body.getD .skip) 3 := ⟨⟨Tryz.f134, by kernel_rfl, by kernel_rfl, by kernel_rfl, rfl, by kernel_rfl⟩, by kernel_rfl, by decide⟩
theorem c (k : Nat) : Contract Tryz.prog 134 (fs k) :=
  fn_sound (ps := [(.int .u32), (.int .u32), (.int .u32)]) (rs := [(.int .u32), (.int .u32)]) (pts := ptL) (fns := fns) (fgs := fgs) (fws := fws) (tys := tyTab) (main := fun k (x : Int × Int × Int) => bits_Add32.f k x.1 x.2.1 x.2.2) ok mix tyOk trivial (fun k x => by kernel_rfl) (fun _ => ⟨trivial, trivial, trivial⟩) k
end bits_Add32

namespace nat_digit
def s0 : PSig := ⟨1, [(80, (.int .u32), false)], [(0, .win 0), (1, .val (.list (.int .u32))), (5, .val (.int .i64)), (7, .val (.int .u64)), (8, .val (.int .u64))]⟩
def s11 : PSig := ⟨1, [(80, (.int .u32), false)], [(0, .win 0), (1, .val (.list (.int .u32))), (5, .val (.int .i64)), (7, .val (.int .u64)), (8, .val (.int .u64))]⟩
def s4 : PSig := ⟨1, [(80, (.int .u32), false)], [(0, .win 0), (1, .val (.list (.int .u32))), (5, .val (.int .i64)), (7, .val (.int .u64)), (9, .val (.int .u32)), (10, .val (.int .u64)), (82, .val (.int .i64)), (83, .val (.int .i64))]⟩
def s8 : PSig := ⟨1, [(80, (.int .u32), false)], [(0, .win 0), (1, .val (.list (.int .u32))), (5, .val (.int .i64)), (7, .val (.int .u64)), (13, .val (.int .u32)), (130, .val (.int .i64)), (131, .val (.int .i64))]⟩
def fws : Nat → List (FuncId × FW) := fun _ => []
def ptL : List (Pt (TD ([.win 80 (.int .u32), .val (.list (.int .u32))].flatMap PK.outs ++ [(.int .u32)]))) := [⟨0, s0, fun k (x : (List Int) × Nat × Nat × (List Int) × Int × Int × Int) => nat_digit.p0 k x.1 x.2.1 x.2.2.1 x.2.2.2.1 x.2.2.2.2.1 x.2.2.2.2.2.1 x.2.2.2.2.2.2⟩, ⟨11, s11, fun k (x : (List Int) × Nat × Nat × (List Int) × Int × Int × Int) => nat_digit.p11 k x.1 x.2.1 x.2.2.1 x.2.2.2.1 x.2.2.2.2.1 x.2.2.2.2.2.1 x.2.2.2.2.2.2⟩, ⟨4, s4, fun k (x : (List Int) × Nat × Nat × (List Int) × Int × Int × Int × Int × Int × Int) => nat_digit.p4 k x.1 x.2.1 x.2.2.1 x.2.2.2.1 x.2.2.2.2.1 x.2.2.2.2.2.1 x.2.2.2.2.2.2.1 x.2.2.2.2.2.2.2.1 x.2.2.2.2.2.2.2.2.1 x.2.2.2.2.2.2.2.2.2⟩, ⟨8, s8, fun k (x : (List Int) × Nat × Nat × (List Int) × Int × Int × Int × Int × Int) => nat_digit.p8 k x.1 x.2.1 x.2.2.1 x.2.2.2.1 x.2.2.2.2.1 x.2.2.2.2.2.1 x.2.2.2.2.2.2.1 x.2.2.2.2.2.2.2.1 x.2.2.2.2.2.2.2.2⟩]
def fns : Nat → List (FuncId × FS) := fun k => [(137, ⟨[(.int .u32), (.int .u32), (.int .u32)], [(.int .u32), (.int .u32)], fun (x : Int × Int × Int) => bits_Sub32.f k x.1 x.2.1 x.2.2⟩), (134, ⟨[(.int .u32), (.int .u32), (.int .u32)], [(.int .u32), (.int .u32)], fun (x : Int × Int × Int) => bits_Add32.f k x.1 x.2.1 x.2.2⟩)]
def fgs : Nat → List (FuncId × FG) := fun _ => []
def fg (k : Nat) : FG := ⟨[.win 80 (.int .u32), .val (.list (.int .u32))], [(.int .u32)], fun (x : (List Int) × Nat × Nat × (List Int)) => nat_digit.f k x.1 x.2.1 x.2.2.1 x.2.2.2⟩
theorem ok : FnOk Tryz.prog 142 160 Tryz.f142.results.toList (Tryz.f142.body.getD .skip) 2 := ⟨⟨Tryz.f142, by kernel_rfl, by kernel_rfl, by kernel_rfl, rfl, by kernel_rfl⟩, by kernel_rfl, by decide⟩
theorem c (k : Nat) : ContractG Tryz.prog 142 (fg k) :=
  fn_soundG (ps := [.win 80 (.int .u32), .val (.list (.int .u32))]) (rs := [(.int .u32)]) (pts := ptL) (fns := fns) (fgs := fgs) (fws := fws) (tys := tyTab) (main := fun k (x : (List Int) × Nat × Nat × (List Int)) => nat_digit.f k x.1 x.2.1 x.2.2.1 x.2.2.2) ok rfl mix tyOk ⟨⟨rfl, fun _ => rfl, fun k x => by kernel_rfl⟩, ⟨rfl, fun _ => rfl, fun k x => by kernel_rfl⟩, ⟨rfl, fun _ => rfl, fun k x => by kernel_rfl⟩, ⟨rfl, fun _ => rfl, fun k x => by kernel_rfl⟩, trivial⟩ (fun k x => by kernel_rfl) (fun k => ⟨⟨bits_Sub32.c k, bits_Add32.c k, trivial⟩, trivial, trivial⟩) k
end nat_digit

namespace nat_long
def s0 : PSig := ⟨0, [(80, (.int .u32), false), (80, (.int .u32), false)], [(6, .val (.int .i64)), (7, .val (.list (.int .u32))), (8, .own 0), (9, .val (.int .i64)), (10, .own 1), (11, .val (.int .i64))]⟩
def s4 : PSig := ⟨0, [(80, (.int .u32), false), (80, (.int .u32), false), (80, (.int .u32), false)], [(6, .val (.int .i64)), (8, .own 0), (10, .own 1), (12, .own 2), (60, .val (.int .i64)), (61, .val (.int .i64))]⟩
def fws : Nat → List (FuncId × FW) := fun k => [(136, ⟨[(.list (.int .u32)), (.int .i64)], 80, (.int .u32), false, fun (x : (List Int) × Int) => nat_moved.f k x.1 x.2⟩), (122, ⟨[(.list (.int .u32))], 80, (.int .u32), false, fun (x : (List Int)) => nat_own.f k x⟩)]
def ptL : List (Pt (TD [(.list (.int .u32)), (.list (.int .u32))])) := [⟨0, s0, fun k (x : (List Int) × (List Int) × Int × (List Int) × Int × Int) => nat_long.p0 k x.1 x.2.1 x.2.2.1 x.2.2.2.1 x.2.2.2.2.1 x.2.2.2.2.2⟩, ⟨4, s4, fun k (x : (List Int) × (List Int) × (List Int) × Int × Int × Int) => nat_long.p4 k x.1 x.2.1 x.2.2.1 x.2.2.2.1 x.2.2.2.2.1 x.2.2.2.2.2⟩]
def fns : Nat → List (FuncId × FS) := fun k => [(141, ⟨[(.int .u32)], [(.int .i64)], fun (x : Int) => bits_LeadingZeros32.f k x⟩)]
def fgs : Nat → List (FuncId × FG) := fun k => [(142, ⟨[.win 80 (.int .u32), .val (.list (.int .u32))], [(.int .u32)], fun (x : (List Int) × Nat × Nat × (List Int)) => nat_digit.f k x.1 x.2.1 x.2.2.1 x.2.2.2⟩)]
def fs (k : Nat) : FS := ⟨[(.list (.int .u32)), (.list (.int .u32))], [(.list (.int .u32)), (.list (.int .u32))], fun (x : (List Int) × (List Int)) => nat_long.f k x.1 x.2⟩
theorem ok : FnOk Tryz.prog 139 89 Tryz.f139.results.toList (Tryz.f139.body.getD .skip) 2 := ⟨⟨Tryz.f139, by kernel_rfl, by kernel_rfl, by kernel_rfl, rfl, by kernel_rfl⟩, by kernel_rfl, by decide⟩
theorem c (k : Nat) : Contract Tryz.prog 139 (fs k) :=
  fn_sound (ps := [(.list (.int .u32)), (.list (.int .u32))]) (rs := [(.list (.int .u32)), (.list (.int .u32))]) (pts := ptL) (fns := fns) (fgs := fgs) (fws := fws) (tys := tyTab) (main := fun k (x : (List Int) × (List Int)) => nat_long.f k x.1 x.2) ok mix tyOk ⟨⟨rfl, fun _ => rfl, fun k x => by kernel_rfl⟩, ⟨rfl, fun _ => rfl, fun k x => by kernel_rfl⟩, trivial⟩ (fun k x => by kernel_rfl) (fun k => ⟨⟨bits_LeadingZeros32.c k, trivial⟩, ⟨nat_digit.c k, trivial⟩, ⟨nat_moved.cw k, nat_own.cw k, trivial⟩⟩) k
end nat_long

namespace nat_Div
def fws : Nat → List (FuncId × FW) := fun _ => []
def ptL : List (Pt (TD [(.list (.int .u32)), (.list (.int .u32)), (.int .i64)])) := []
def fns : Nat → List (FuncId × FS) := fun k => [(132, ⟨[(.list (.int .u32))], [(.list (.int .u32))], fun (x : (List Int)) => nat_trim.f k x⟩), (114, ⟨[(.list (.int .u32)), (.list (.int .u32))], [(.int .i64)], fun (x : (List Int) × (List Int)) => nat_Cmp.f k x.1 x.2⟩), (122, ⟨[(.list (.int .u32))], [(.list (.int .u32))], fun (x : (List Int)) => nat_own.f k x⟩), (138, ⟨[(.list (.int .u32)), (.int .u32)], [(.list (.int .u32)), (.int .u32)], fun (x : (List Int) × Int) => nat_short.f k x.1 x.2⟩), (139, ⟨[(.list (.int .u32)), (.list (.int .u32))], [(.list (.int .u32)), (.list (.int .u32))], fun (x : (List Int) × (List Int)) => nat_long.f k x.1 x.2⟩)]
def fgs : Nat → List (FuncId × FG) := fun _ => []
def fs (k : Nat) : FS := ⟨[(.list (.int .u32)), (.list (.int .u32))], [(.list (.int .u32)), (.list (.int .u32)), (.int .i64)], fun (x : (List Int) × (List Int)) => nat_Div.f k x.1 x.2⟩
theorem ok : FnOk Tryz.prog 130 51 Tryz.f130.results.toList (Tryz.f130.body.getD .skip) 2 := ⟨⟨Tryz.f130, by kernel_rfl, by kernel_rfl, by kernel_rfl, rfl, by kernel_rfl⟩, by kernel_rfl, by decide⟩
theorem c (k : Nat) : Contract Tryz.prog 130 (fs k) :=
  fn_sound (ps := [(.list (.int .u32)), (.list (.int .u32))]) (rs := [(.list (.int .u32)), (.list (.int .u32)), (.int .i64)]) (pts := ptL) (fns := fns) (fgs := fgs) (fws := fws) (tys := tyTab) (main := fun k (x : (List Int) × (List Int)) => nat_Div.f k x.1 x.2) ok mix tyOk trivial (fun k x => by kernel_rfl) (fun k => ⟨⟨nat_trim.c k, nat_Cmp.c k, nat_own.c k, nat_short.c k, nat_long.c k, trivial⟩, trivial, trivial⟩) k
end nat_Div

namespace nat_Gcd
def s0 : PSig := ⟨0, [], [(0, .val (.list (.int .u32))), (1, .val (.list (.int .u32)))]⟩
def fws : Nat → List (FuncId × FW) := fun _ => []
def ptL : List (Pt (TD [(.list (.int .u32))])) := [⟨0, s0, fun k (x : (List Int) × (List Int)) => nat_Gcd.p0 k x.1 x.2⟩]
def fns : Nat → List (FuncId × FS) := fun k => [(122, ⟨[(.list (.int .u32))], [(.list (.int .u32))], fun (x : (List Int)) => nat_own.f k x⟩), (130, ⟨[(.list (.int .u32)), (.list (.int .u32))], [(.list (.int .u32)), (.list (.int .u32)), (.int .i64)], fun (x : (List Int) × (List Int)) => nat_Div.f k x.1 x.2⟩)]
def fgs : Nat → List (FuncId × FG) := fun _ => []
def fs (k : Nat) : FS := ⟨[(.list (.int .u32)), (.list (.int .u32))], [(.list (.int .u32))], fun (x : (List Int) × (List Int)) => nat_Gcd.f k x.1 x.2⟩
theorem ok : FnOk Tryz.prog 129 25 Tryz.f129.results.toList (Tryz.f129.body.getD .skip) 2 := ⟨⟨Tryz.f129, by kernel_rfl, by kernel_rfl, by kernel_rfl, rfl, by kernel_rfl⟩, by kernel_rfl, by decide⟩
theorem c (k : Nat) : Contract Tryz.prog 129 (fs k) :=
  fn_sound (ps := [(.list (.int .u32)), (.list (.int .u32))]) (rs := [(.list (.int .u32))]) (pts := ptL) (fns := fns) (fgs := fgs) (fws := fws) (tys := tyTab) (main := fun k (x : (List Int) × (List Int)) => nat_Gcd.f k x.1 x.2) ok mix tyOk ⟨⟨rfl, fun _ => rfl, fun k x => by kernel_rfl⟩, trivial⟩ (fun k x => by kernel_rfl) (fun k => ⟨⟨nat_own.c k, nat_Div.c k, trivial⟩, trivial, trivial⟩) k
end nat_Gcd

namespace whole_core
def s0 : PSig := ⟨0, [], [(0, .val (.list (.int .u32))), (3, .val (.int .i64))]⟩
def s9 : PSig := ⟨0, [], [(0, .val (.list (.int .u32))), (3, .val (.int .i64))]⟩
def fws : Nat → List (FuncId × FW) := fun _ => []
def ptL : List (Pt (TD [(.list (.int .u32))])) := [⟨0, s0, fun k (x : (List Int) × Int) => whole_core.p0 k x.1 x.2⟩, ⟨9, s9, fun k (x : (List Int) × Int) => whole_core.p9 k x.1 x.2⟩]
def fns : Nat → List (FuncId × FS) := fun _ => []
def fgs : Nat → List (FuncId × FG) := fun _ => []
def fs (k : Nat) : FS := ⟨[(.list (.int .u32))], [(.list (.int .u32))], fun (x : (List Int)) => whole_core.f k x⟩
theorem ok : FnOk Tryz.prog 116 22 Tryz.f116.results.toList (Tryz.f116.body.getD .skip) 1 := ⟨⟨Tryz.f116, by kernel_rfl, by kernel_rfl, by kernel_rfl, rfl, by kernel_rfl⟩, by kernel_rfl, by decide⟩
theorem c (k : Nat) : Contract Tryz.prog 116 (fs k) :=
  fn_sound (ps := [(.list (.int .u32))]) (rs := [(.list (.int .u32))]) (pts := ptL) (fns := fns) (fgs := fgs) (fws := fws) (tys := tyTab) (main := fun k (x : (List Int)) => whole_core.f k x) ok mix tyOk ⟨⟨rfl, fun _ => rfl, fun k x => by kernel_rfl⟩, ⟨rfl, fun _ => rfl, fun k x => by kernel_rfl⟩, trivial⟩ (fun k x => by kernel_rfl) (fun _ => ⟨trivial, trivial, trivial⟩) k
end whole_core

namespace whole_Sign
def fws : Nat → List (FuncId × FW) := fun _ => []
def ptL : List (Pt (TD [(.int .i64)])) := []
def fns : Nat → List (FuncId × FS) := fun k => [(116, ⟨[(.list (.int .u32))], [(.list (.int .u32))], fun (x : (List Int)) => whole_core.f k x⟩)]
def fgs : Nat → List (FuncId × FG) := fun _ => []
def fs (k : Nat) : FS := ⟨[(.st (.pair .bool (.list (.int .u32))))], [(.int .i64)], fun (x : (Bool × (List Int))) => whole_Sign.f k x⟩
theorem ok : FnOk Tryz.prog 88 12 Tryz.f88.results.toList (Tryz.f88.body.getD .skip) 1 := ⟨⟨Tryz.f88, by kernel_rfl, by kernel_rfl, by kernel_rfl, rfl, by kernel_rfl⟩, by kernel_rfl, by decide⟩
theorem c (k : Nat) : Contract Tryz.prog 88 (fs k) :=
  fn_sound (ps := [(.st (.pair .bool (.list (.int .u32))))]) (rs := [(.int .i64)]) (pts := ptL) (fns := fns) (fgs := fgs) (fws := fws) (tys := tyTab) (main := fun k (x : (Bool × (List Int))) => whole_Sign.f k x) ok mix tyOk trivial (fun k x => by kernel_rfl) (fun k => ⟨⟨whole_core.c k, trivial⟩, trivial, trivial⟩) k
end whole_Sign

namespace nat_Norm
def fws : Nat → List (FuncId × FW) := fun _ => []
def ptL : List (Pt (TD [(.list (.int .u32))])) := []
def fns : Nat → List (FuncId × FS) := fun k => [(122, ⟨[(.list (.int .u32))], [(.list (.int .u32))], fun (x : (List Int)) => nat_own.f k x⟩)]
def fgs : Nat → List (FuncId × FG) := fun _ => []
def fs (k : Nat) : FS := ⟨[(.list (.int .u32))], [(.list (.int .u32))], fun (x : (List Int)) => nat_Norm.f k x⟩
theorem ok : FnOk Tryz.prog 135 5 Tryz.f135.results.toList (Tryz.f135.body.getD .skip) 1 := ⟨⟨Tryz.f135, by kernel_rfl, by kernel_rfl, by kernel_rfl, rfl, by kernel_rfl⟩, by kernel_rfl, by decide⟩
theorem c (k : Nat) : Contract Tryz.prog 135 (fs k) :=
  fn_sound (ps := [(.list (.int .u32))]) (rs := [(.list (.int .u32))]) (pts := ptL) (fns := fns) (fgs := fgs) (fws := fws) (tys := tyTab) (main := fun k (x : (List Int)) => nat_Norm.f k x) ok mix tyOk trivial (fun k x => by kernel_rfl) (fun k => ⟨⟨nat_own.c k, trivial⟩, trivial, trivial⟩) k
end nat_Norm

namespace whole_signed
def s0 : PSig := ⟨0, [(25, (.st (.pair .bool (.list (.int .u32)))), true)], [(0, .val (.list (.int .u32))), (4, .ptr 0 []), (5, .val (.int .i64)), (10, .val (.list (.int .i64))), (11, .val (.int .i64)), (12, .val (.int .i64))]⟩
def fws : Nat → List (FuncId × FW) := fun _ => []
def ptL : List (Pt (TD [(.st (.pair .bool (.list (.int .u32))))])) := [⟨0, s0, fun k (x : (Bool × (List Int)) × (List Int) × Int × (List Int) × Int × Int) => whole_signed.p0 k x.1 x.2.1 x.2.2.1 x.2.2.2.1 x.2.2.2.2.1 x.2.2.2.2.2⟩]
def fns : Nat → List (FuncId × FS) := fun k => [(135, ⟨[(.list (.int .u32))], [(.list (.int .u32))], fun (x : (List Int)) => nat_Norm.f k x⟩)]
def fgs : Nat → List (FuncId × FG) := fun _ => []
def fs (k : Nat) : FS := ⟨[(.list (.int .u32)), (.list (.int .i64))], [(.st (.pair .bool (.list (.int .u32))))], fun (x : (List Int) × (List Int)) => whole_signed.f k x.1 x.2⟩
theorem ok : FnOk Tryz.prog 121 29 Tryz.f121.results.toList (Tryz.f121.body.getD .skip) 2 := ⟨⟨Tryz.f121, by kernel_rfl, by kernel_rfl, by kernel_rfl, rfl, by kernel_rfl⟩, by kernel_rfl, by decide⟩
theorem c (k : Nat) : Contract Tryz.prog 121 (fs k) :=
  fn_sound (ps := [(.list (.int .u32)), (.list (.int .i64))]) (rs := [(.st (.pair .bool (.list (.int .u32))))]) (pts := ptL) (fns := fns) (fgs := fgs) (fws := fws) (tys := tyTab) (main := fun k (x : (List Int) × (List Int)) => whole_signed.f k x.1 x.2) ok mix tyOk ⟨⟨rfl, fun _ => rfl, fun k x => by kernel_rfl⟩, trivial⟩ (fun k x => by kernel_rfl) (fun k => ⟨⟨nat_Norm.c k, trivial⟩, trivial, trivial⟩) k
end whole_signed

namespace whole_Norm
def fws : Nat → List (FuncId × FW) := fun _ => []
def ptL : List (Pt (TD [(.st (.pair .bool (.list (.int .u32))))])) := []
def fns : Nat → List (FuncId × FS) := fun k => [(88, ⟨[(.st (.pair .bool (.list (.int .u32))))], [(.int .i64)], fun (x : (Bool × (List Int))) => whole_Sign.f k x⟩), (121, ⟨[(.list (.int .u32)), (.list (.int .i64))], [(.st (.pair .bool (.list (.int .u32))))], fun (x : (List Int) × (List Int)) => whole_signed.f k x.1 x.2⟩)]
def fgs : Nat → List (FuncId × FG) := fun _ => []
def fs (k : Nat) : FS := ⟨[(.st (.pair .bool (.list (.int .u32))))], [(.st (.pair .bool (.list (.int .u32))))], fun (x : (Bool × (List Int))) => whole_Norm.f k x⟩
theorem ok : FnOk Tryz.prog 131 9 Tryz.f131.results.toList (Tryz.f131.body.getD .skip) 1 := ⟨⟨Tryz.f131, by kernel_rfl, by kernel_rfl, by kernel_rfl, rfl, by kernel_rfl⟩, by kernel_rfl, by decide⟩
theorem c (k : Nat) : Contract Tryz.prog 131 (fs k) :=
  fn_sound (ps := [(.st (.pair .bool (.list (.int .u32))))]) (rs := [(.st (.pair .bool (.list (.int .u32))))]) (pts := ptL) (fns := fns) (fgs := fgs) (fws := fws) (tys := tyTab) (main := fun k (x : (Bool × (List Int))) => whole_Norm.f k x) ok mix tyOk trivial (fun k x => by kernel_rfl) (fun k => ⟨⟨whole_Sign.c k, whole_signed.c k, trivial⟩, trivial, trivial⟩) k
end whole_Norm

namespace ratio_made
def fws : Nat → List (FuncId × FW) := fun _ => []
def ptL : List (Pt (TD [(.st (.pair (.st (.pair .bool (.list (.int .u32)))) (.list (.int .u32))))])) := []
def fns : Nat → List (FuncId × FS) := fun k => [(129, ⟨[(.list (.int .u32)), (.list (.int .u32))], [(.list (.int .u32))], fun (x : (List Int) × (List Int)) => nat_Gcd.f k x.1 x.2⟩), (130, ⟨[(.list (.int .u32)), (.list (.int .u32))], [(.list (.int .u32)), (.list (.int .u32)), (.int .i64)], fun (x : (List Int) × (List Int)) => nat_Div.f k x.1 x.2⟩), (131, ⟨[(.st (.pair .bool (.list (.int .u32))))], [(.st (.pair .bool (.list (.int .u32))))], fun (x : (Bool × (List Int))) => whole_Norm.f k x⟩)]
def fgs : Nat → List (FuncId × FG) := fun _ => []
def fs (k : Nat) : FS := ⟨[(.st (.pair .bool (.list (.int .u32)))), (.list (.int .u32))], [(.st (.pair (.st (.pair .bool (.list (.int .u32)))) (.list (.int .u32))))], fun (x : (Bool × (List Int)) × (List Int)) => ratio_made.f k x.1 x.2⟩
theorem ok : FnOk Tryz.prog 106 38 Tryz.f106.results.toList (Tryz.f106.body.getD .skip) 2 := ⟨⟨Tryz.f106, by kernel_rfl, by kernel_rfl, by kernel_rfl, rfl, by kernel_rfl⟩, by kernel_rfl, by decide⟩
theorem c (k : Nat) : Contract Tryz.prog 106 (fs k) :=
  fn_sound (ps := [(.st (.pair .bool (.list (.int .u32)))), (.list (.int .u32))]) (rs := [(.st (.pair (.st (.pair .bool (.list (.int .u32)))) (.list (.int .u32))))]) (pts := ptL) (fns := fns) (fgs := fgs) (fws := fws) (tys := tyTab) (main := fun k (x : (Bool × (List Int)) × (List Int)) => ratio_made.f k x.1 x.2) ok mix tyOk trivial (fun k x => by kernel_rfl) (fun k => ⟨⟨nat_Gcd.c k, nat_Div.c k, whole_Norm.c k, trivial⟩, trivial, trivial⟩) k
end ratio_made

namespace ratio_Norm
def fws : Nat → List (FuncId × FW) := fun _ => []
def ptL : List (Pt (TD [(.st (.pair (.st (.pair .bool (.list (.int .u32)))) (.list (.int .u32))))])) := []
def fns : Nat → List (FuncId × FS) := fun k => [(111, ⟨[(.list (.int .u32))], [(.int .i64)], fun (x : (List Int)) => nat_Bits.f k x⟩), (106, ⟨[(.st (.pair .bool (.list (.int .u32)))), (.list (.int .u32))], [(.st (.pair (.st (.pair .bool (.list (.int .u32)))) (.list (.int .u32))))], fun (x : (Bool × (List Int)) × (List Int)) => ratio_made.f k x.1 x.2⟩)]
def fgs : Nat → List (FuncId × FG) := fun _ => []
def fs (k : Nat) : FS := ⟨[(.st (.pair (.st (.pair .bool (.list (.int .u32)))) (.list (.int .u32))))], [(.st (.pair (.st (.pair .bool (.list (.int .u32)))) (.list (.int .u32))))], fun (x : ((Bool × (List Int)) × (List Int))) => ratio_Norm.f k x⟩
theorem ok : FnOk Tryz.prog 89 14 Tryz.f89.results.toList (Tryz.f89.body.getD .skip) 1 := ⟨⟨Tryz.f89, by kernel_rfl, by kernel_rfl, by kernel_rfl, rfl, by kernel_rfl⟩, by kernel_rfl, by decide⟩
theorem c (k : Nat) : Contract Tryz.prog 89 (fs k) :=
  fn_sound (ps := [(.st (.pair (.st (.pair .bool (.list (.int .u32)))) (.list (.int .u32))))]) (rs := [(.st (.pair (.st (.pair .bool (.list (.int .u32)))) (.list (.int .u32))))]) (pts := ptL) (fns := fns) (fgs := fgs) (fws := fws) (tys := tyTab) (main := fun k (x : ((Bool × (List Int)) × (List Int))) => ratio_Norm.f k x) ok mix tyOk trivial (fun k x => by kernel_rfl) (fun k => ⟨⟨nat_Bits.c k, ratio_made.c k, trivial⟩, trivial, trivial⟩) k
end ratio_Norm

namespace ratio_Sign
def fws : Nat → List (FuncId × FW) := fun _ => []
def ptL : List (Pt (TD [(.int .i64)])) := []
def fns : Nat → List (FuncId × FS) := fun k => [(89, ⟨[(.st (.pair (.st (.pair .bool (.list (.int .u32)))) (.list (.int .u32))))], [(.st (.pair (.st (.pair .bool (.list (.int .u32)))) (.list (.int .u32))))], fun (x : ((Bool × (List Int)) × (List Int))) => ratio_Norm.f k x⟩), (88, ⟨[(.st (.pair .bool (.list (.int .u32))))], [(.int .i64)], fun (x : (Bool × (List Int))) => whole_Sign.f k x⟩)]
def fgs : Nat → List (FuncId × FG) := fun _ => []
def fs (k : Nat) : FS := ⟨[(.st (.pair (.st (.pair .bool (.list (.int .u32)))) (.list (.int .u32))))], [(.int .i64)], fun (x : ((Bool × (List Int)) × (List Int))) => ratio_Sign.f k x⟩
theorem ok : FnOk Tryz.prog 58 7 Tryz.f58.results.toList (Tryz.f58.body.getD .skip) 1 := ⟨⟨Tryz.f58, by kernel_rfl, by kernel_rfl, by kernel_rfl, rfl, by kernel_rfl⟩, by kernel_rfl, by decide⟩
theorem c (k : Nat) : Contract Tryz.prog 58 (fs k) :=
  fn_sound (ps := [(.st (.pair (.st (.pair .bool (.list (.int .u32)))) (.list (.int .u32))))]) (rs := [(.int .i64)]) (pts := ptL) (fns := fns) (fgs := fgs) (fws := fws) (tys := tyTab) (main := fun k (x : ((Bool × (List Int)) × (List Int))) => ratio_Sign.f k x) ok mix tyOk trivial (fun k x => by kernel_rfl) (fun k => ⟨⟨ratio_Norm.c k, whole_Sign.c k, trivial⟩, trivial, trivial⟩) k
end ratio_Sign

namespace whole_Neg
def fws : Nat → List (FuncId × FW) := fun _ => []
def ptL : List (Pt (TD [(.st (.pair .bool (.list (.int .u32))))])) := []
def fns : Nat → List (FuncId × FS) := fun k => [(88, ⟨[(.st (.pair .bool (.list (.int .u32))))], [(.int .i64)], fun (x : (Bool × (List Int))) => whole_Sign.f k x⟩), (121, ⟨[(.list (.int .u32)), (.list (.int .i64))], [(.st (.pair .bool (.list (.int .u32))))], fun (x : (List Int) × (List Int)) => whole_signed.f k x.1 x.2⟩)]
def fgs : Nat → List (FuncId × FG) := fun _ => []
def fs (k : Nat) : FS := ⟨[(.st (.pair .bool (.list (.int .u32))))], [(.st (.pair .bool (.list (.int .u32))))], fun (x : (Bool × (List Int))) => whole_Neg.f k x⟩
theorem ok : FnOk Tryz.prog 108 9 Tryz.f108.results.toList (Tryz.f108.body.getD .skip) 1 := ⟨⟨Tryz.f108, by kernel_rfl, by kernel_rfl, by kernel_rfl, rfl, by kernel_rfl⟩, by kernel_rfl, by decide⟩
theorem c (k : Nat) : Contract Tryz.prog 108 (fs k) :=
  fn_sound (ps := [(.st (.pair .bool (.list (.int .u32))))]) (rs := [(.st (.pair .bool (.list (.int .u32))))]) (pts := ptL) (fns := fns) (fgs := fgs) (fws := fws) (tys := tyTab) (main := fun k (x : (Bool × (List Int))) => whole_Neg.f k x) ok mix tyOk trivial (fun k x => by kernel_rfl) (fun k => ⟨⟨whole_Sign.c k, whole_signed.c k, trivial⟩, trivial, trivial⟩) k
end whole_Neg

namespace ratio_Neg
def fws : Nat → List (FuncId × FW) := fun _ => []
def ptL : List (Pt (TD [(.st (.pair (.st (.pair .bool (.list (.int .u32)))) (.list (.int .u32))))])) := []
def fns : Nat → List (FuncId × FS) := fun k => [(89, ⟨[(.st (.pair (.st (.pair .bool (.list (.int .u32)))) (.list (.int .u32))))], [(.st (.pair (.st (.pair .bool (.list (.int .u32)))) (.list (.int .u32))))], fun (x : ((Bool × (List Int)) × (List Int))) => ratio_Norm.f k x⟩), (108, ⟨[(.st (.pair .bool (.list (.int .u32))))], [(.st (.pair .bool (.list (.int .u32))))], fun (x : (Bool × (List Int))) => whole_Neg.f k x⟩)]
def fgs : Nat → List (FuncId × FG) := fun _ => []
def fs (k : Nat) : FS := ⟨[(.st (.pair (.st (.pair .bool (.list (.int .u32)))) (.list (.int .u32))))], [(.st (.pair (.st (.pair .bool (.list (.int .u32)))) (.list (.int .u32))))], fun (x : ((Bool × (List Int)) × (List Int))) => ratio_Neg.f k x⟩
theorem ok : FnOk Tryz.prog 74 11 Tryz.f74.results.toList (Tryz.f74.body.getD .skip) 1 := ⟨⟨Tryz.f74, by kernel_rfl, by kernel_rfl, by kernel_rfl, rfl, by kernel_rfl⟩, by kernel_rfl, by decide⟩
theorem c (k : Nat) : Contract Tryz.prog 74 (fs k) :=
  fn_sound (ps := [(.st (.pair (.st (.pair .bool (.list (.int .u32)))) (.list (.int .u32))))]) (rs := [(.st (.pair (.st (.pair .bool (.list (.int .u32)))) (.list (.int .u32))))]) (pts := ptL) (fns := fns) (fgs := fgs) (fws := fws) (tys := tyTab) (main := fun k (x : ((Bool × (List Int)) × (List Int))) => ratio_Neg.f k x) ok mix tyOk trivial (fun k x => by kernel_rfl) (fun k => ⟨⟨ratio_Norm.c k, whole_Neg.c k, trivial⟩, trivial, trivial⟩) k
end ratio_Neg

namespace ratio_Abs
def fws : Nat → List (FuncId × FW) := fun _ => []
def ptL : List (Pt (TD [(.st (.pair (.st (.pair .bool (.list (.int .u32)))) (.list (.int .u32))))])) := []
def fns : Nat → List (FuncId × FS) := fun k => [(58, ⟨[(.st (.pair (.st (.pair .bool (.list (.int .u32)))) (.list (.int .u32))))], [(.int .i64)], fun (x : ((Bool × (List Int)) × (List Int))) => ratio_Sign.f k x⟩), (74, ⟨[(.st (.pair (.st (.pair .bool (.list (.int .u32)))) (.list (.int .u32))))], [(.st (.pair (.st (.pair .bool (.list (.int .u32)))) (.list (.int .u32))))], fun (x : ((Bool × (List Int)) × (List Int))) => ratio_Neg.f k x⟩), (89, ⟨[(.st (.pair (.st (.pair .bool (.list (.int .u32)))) (.list (.int .u32))))], [(.st (.pair (.st (.pair .bool (.list (.int .u32)))) (.list (.int .u32))))], fun (x : ((Bool × (List Int)) × (List Int))) => ratio_Norm.f k x⟩)]
def fgs : Nat → List (FuncId × FG) := fun _ => []
def fs (k : Nat) : FS := ⟨[(.st (.pair (.st (.pair .bool (.list (.int .u32)))) (.list (.int .u32))))], [(.st (.pair (.st (.pair .bool (.list (.int .u32)))) (.list (.int .u32))))], fun (x : ((Bool × (List Int)) × (List Int))) => ratio_Abs.f k x⟩
theorem ok : FnOk Tryz.prog 86 10 Tryz.f86.results.toList (Tryz.f86.body.getD .skip) 1 := ⟨⟨Tryz.f86, by kernel_rfl, by kernel_rfl, by kernel_rfl, rfl, by kernel_rfl⟩, by kernel_rfl, by decide⟩
theorem c (k : Nat) : Contract Tryz.prog 86 (fs k) :=
  fn_sound (ps := [(.st (.pair (.st (.pair .bool (.list (.int .u32)))) (.list (.int .u32))))]) (rs := [(.st (.pair (.st (.pair .bool (.list (.int .u32)))) (.list (.int .u32))))]) (pts := ptL) (fns := fns) (fgs := fgs) (fws := fws) (tys := tyTab) (main := fun k (x : ((Bool × (List Int)) × (List Int))) => ratio_Abs.f k x) ok mix tyOk trivial (fun k x => by kernel_rfl) (fun k => ⟨⟨ratio_Sign.c k, ratio_Neg.c k, ratio_Norm.c k, trivial⟩, trivial, trivial⟩) k
end ratio_Abs

namespace math_Float64bits
theorem c (k : Nat) : Contract Tryz.prog 36 ⟨[.flt], [(.int .u64)], fun (x : Nat) => math_Float64bits.f k x⟩ :=
  float64bits_contract (fn := Tryz.f36) (by kernel_rfl) (by kernel_rfl) (by kernel_rfl) (by kernel_rfl) (by kernel_rfl) (fun _ => rfl)
end math_Float64bits

namespace nat_Shift
def s5 : PSig := ⟨0, [], []⟩
def s0 : PSig := ⟨0, [(80, (.int .u32), false)], [(0, .val (.list (.int .u32))), (8, .val (.int .i64)), (9, .own 0), (56, .val (.int .i64)), (57, .val (.int .i64))]⟩
def s39 : PSig := ⟨0, [(80, (.int .u32), false)], [(0, .val (.list (.int .u32))), (8, .val (.int .i64)), (9, .own 0), (56, .val (.int .i64)), (57, .val (.int .i64))]⟩
def fws : Nat → List (FuncId × FW) := fun _ => []
def ptL : List (Pt (TD [(.list (.int .u32)), (.int .i64)])) := [⟨5, s5, fun k (x : Unit) => nat_Shift.p5 k x⟩, ⟨0, s0, fun k (x : (List Int) × (List Int) × Int × Int × Int) => nat_Shift.p0 k x.1 x.2.1 x.2.2.1 x.2.2.2.1 x.2.2.2.2⟩, ⟨39, s39, fun k (x : (List Int) × (List Int) × Int × Int × Int) => nat_Shift.p39 k x.1 x.2.1 x.2.2.1 x.2.2.2.1 x.2.2.2.2⟩]
def fns : Nat → List (FuncId × FS) := fun k => [(132, ⟨[(.list (.int .u32))], [(.list (.int .u32))], fun (x : (List Int)) => nat_trim.f k x⟩), (136, ⟨[(.list (.int .u32)), (.int .i64)], [(.list (.int .u32))], fun (x : (List Int) × Int) => nat_moved.f k x.1 x.2⟩), (122, ⟨[(.list (.int .u32))], [(.list (.int .u32))], fun (x : (List Int)) => nat_own.f k x⟩)]
def fgs : Nat → List (FuncId × FG) := fun _ => []
def fs (k : Nat) : FS := ⟨[(.list (.int .u32)), (.int .i64)], [(.list (.int .u32)), (.int .i64)], fun (x : (List Int) × Int) => nat_Shift.f k x.1 x.2⟩
theorem ok : FnOk Tryz.prog 123 93 Tryz.f123.results.toList (Tryz.f123.body.getD .skip) 2 := ⟨⟨Tryz.f123, by kernel_rfl, by kernel_rfl, by kernel_rfl, rfl, by kernel_rfl⟩, by kernel_rfl, by decide⟩
theorem c (k : Nat) : Contract Tryz.prog 123 (fs k) :=
  fn_sound (ps := [(.list (.int .u32)), (.int .i64)]) (rs := [(.list (.int .u32)), (.int .i64)]) (pts := ptL) (fns := fns) (fgs := fgs) (fws := fws) (tys := tyTab) (main := fun k (x : (List Int) × Int) => nat_Shift.f k x.1 x.2) ok mix tyOk ⟨⟨rfl, fun _ => rfl, fun k x => by kernel_rfl⟩, ⟨rfl, fun _ => rfl, fun k x => by kernel_rfl⟩, ⟨rfl, fun _ => rfl, fun k x => by kernel_rfl⟩, trivial⟩ (fun k x => by kernel_rfl) (fun k => ⟨⟨nat_trim.c k, nat_moved.c k, nat_own.c k, trivial⟩, trivial, trivial⟩) k
end nat_Shift

namespace approx_cut
def s9 : PSig := ⟨0, [], [(0, .val (.list (.int .u32))), (1, .val (.list (.int .u32)))]⟩
def fws : Nat → List (FuncId × FW) := fun _ => []
def ptL : List (Pt (TD [(.list (.int .u32)), (.list (.int .u32)), (.list (.int .u32))])) := [⟨9, s9, fun k (x : (List Int) × (List Int)) => approx_cut.p9 k x.1 x.2⟩]
def fns : Nat → List (FuncId × FS) := fun k => [(123, ⟨[(.list (.int .u32)), (.int .i64)], [(.list (.int .u32)), (.int .i64)], fun (x : (List Int) × Int) => nat_Shift.f k x.1 x.2⟩), (130, ⟨[(.list (.int .u32)), (.list (.int .u32))], [(.list (.int .u32)), (.list (.int .u32)), (.int .i64)], fun (x : (List Int) × (List Int)) => nat_Div.f k x.1 x.2⟩)]
def fgs : Nat → List (FuncId × FG) := fun _ => []
def fs (k : Nat) : FS := ⟨[(.list (.int .u32)), (.list (.int .u32)), (.int .i64)], [(.list (.int .u32)), (.list (.int .u32)), (.list (.int .u32))], fun (x : (List Int) × (List Int) × Int) => approx_cut.f k x.1 x.2.1 x.2.2⟩
theorem ok : FnOk Tryz.prog 112 37 Tryz.f112.results.toList (Tryz.f112.body.getD .skip) 3 := ⟨⟨Tryz.f112, by kernel_rfl, by kernel_rfl, by kernel_rfl, rfl, by kernel_rfl⟩, by kernel_rfl, by decide⟩
theorem c (k : Nat) : Contract Tryz.prog 112 (fs k) :=
  fn_sound (ps := [(.list (.int .u32)), (.list (.int .u32)), (.int .i64)]) (rs := [(.list (.int .u32)), (.list (.int .u32)), (.list (.int .u32))]) (pts := ptL) (fns := fns) (fgs := fgs) (fws := fws) (tys := tyTab) (main := fun k (x : (List Int) × (List Int) × Int) => approx_cut.f k x.1 x.2.1 x.2.2) ok mix tyOk ⟨⟨rfl, fun _ => rfl, fun k x => by kernel_rfl⟩, trivial⟩ (fun k x => by kernel_rfl) (fun k => ⟨⟨nat_Shift.c k, nat_Div.c k, trivial⟩, trivial, trivial⟩) k
end approx_cut

namespace nat_Small
def s0 : PSig := ⟨0, [], [(0, .val (.list (.int .u32))), (4, .val (.int .u64)), (12, .val (.int .i64)), (13, .val (.int .i64))]⟩
def fws : Nat → List (FuncId × FW) := fun _ => []
def ptL : List (Pt (TD [(.int .u64), .bool])) := [⟨0, s0, fun k (x : (List Int) × Int × Int × Int) => nat_Small.p0 k x.1 x.2.1 x.2.2.1 x.2.2.2⟩]
def fns : Nat → List (FuncId × FS) := fun k => [(132, ⟨[(.list (.int .u32))], [(.list (.int .u32))], fun (x : (List Int)) => nat_trim.f k x⟩)]
def fgs : Nat → List (FuncId × FG) := fun _ => []
def fs (k : Nat) : FS := ⟨[(.list (.int .u32))], [(.int .u64), .bool], fun (x : (List Int)) => nat_Small.f k x⟩
theorem ok : FnOk Tryz.prog 113 28 Tryz.f113.results.toList (Tryz.f113.body.getD .skip) 1 := ⟨⟨Tryz.f113, by kernel_rfl, by kernel_rfl, by kernel_rfl, rfl, by kernel_rfl⟩, by kernel_rfl, by decide⟩
theorem c (k : Nat) : Contract Tryz.prog 113 (fs k) :=
  fn_sound (ps := [(.list (.int .u32))]) (rs := [(.int .u64), .bool]) (pts := ptL) (fns := fns) (fgs := fgs) (fws := fws) (tys := tyTab) (main := fun k (x : (List Int)) => nat_Small.f k x) ok mix tyOk ⟨⟨rfl, fun _ => rfl, fun k x => by kernel_rfl⟩, trivial⟩ (fun k x => by kernel_rfl) (fun k => ⟨⟨nat_trim.c k, trivial⟩, trivial, trivial⟩) k
end nat_Small

namespace nat_Add
def s7 : PSig := ⟨0, [], [(0, .val (.list (.int .u32))), (1, .val (.list (.int .u32)))]⟩
def s0 : PSig := ⟨0, [(80, (.int .u32), false)], [(0, .val (.list (.int .u32))), (1, .val (.list (.int .u32))), (5, .own 0), (6, .val (.int .u32)), (21, .val (.int .i64)), (22, .val (.int .i64))]⟩
def s23 : PSig := ⟨0, [(80, (.int .u32), false)], [(0, .val (.list (.int .u32))), (1, .val (.list (.int .u32))), (5, .own 0), (6, .val (.int .u32)), (7, .val (.int .i64)), (8, .val (.int .u32)), (21, .val (.int .i64)), (22, .val (.int .i64))]⟩
def fws : Nat → List (FuncId × FW) := fun _ => []
def ptL : List (Pt (TD [(.list (.int .u32))])) := [⟨7, s7, fun k (x : (List Int) × (List Int)) => nat_Add.p7 k x.1 x.2⟩, ⟨0, s0, fun k (x : (List Int) × (List Int) × (List Int) × Int × Int × Int) => nat_Add.p0 k x.1 x.2.1 x.2.2.1 x.2.2.2.1 x.2.2.2.2.1 x.2.2.2.2.2⟩, ⟨23, s23, fun k (x : (List Int) × (List Int) × (List Int) × Int × Int × Int × Int × Int) => nat_Add.p23 k x.1 x.2.1 x.2.2.1 x.2.2.2.1 x.2.2.2.2.1 x.2.2.2.2.2.1 x.2.2.2.2.2.2.1 x.2.2.2.2.2.2.2⟩]
def fns : Nat → List (FuncId × FS) := fun k => [(134, ⟨[(.int .u32), (.int .u32), (.int .u32)], [(.int .u32), (.int .u32)], fun (x : Int × Int × Int) => bits_Add32.f k x.1 x.2.1 x.2.2⟩), (122, ⟨[(.list (.int .u32))], [(.list (.int .u32))], fun (x : (List Int)) => nat_own.f k x⟩)]
def fgs : Nat → List (FuncId × FG) := fun _ => []
def fs (k : Nat) : FS := ⟨[(.list (.int .u32)), (.list (.int .u32))], [(.list (.int .u32))], fun (x : (List Int) × (List Int)) => nat_Add.f k x.1 x.2⟩
theorem ok : FnOk Tryz.prog 115 54 Tryz.f115.results.toList (Tryz.f115.body.getD .skip) 2 := ⟨⟨Tryz.f115, by kernel_rfl, by kernel_rfl, by kernel_rfl, rfl, by kernel_rfl⟩, by kernel_rfl, by decide⟩
theorem c (k : Nat) : Contract Tryz.prog 115 (fs k) :=
  fn_sound (ps := [(.list (.int .u32)), (.list (.int .u32))]) (rs := [(.list (.int .u32))]) (pts := ptL) (fns := fns) (fgs := fgs) (fws := fws) (tys := tyTab) (main := fun k (x : (List Int) × (List Int)) => nat_Add.f k x.1 x.2) ok mix tyOk ⟨⟨rfl, fun _ => rfl, fun k x => by kernel_rfl⟩, ⟨rfl, fun _ => rfl, fun k x => by kernel_rfl⟩, ⟨rfl, fun _ => rfl, fun k x => by kernel_rfl⟩, trivial⟩ (fun k x => by kernel_rfl) (fun k => ⟨⟨bits_Add32.c k, nat_own.c k, trivial⟩, trivial, trivial⟩) k
end nat_Add

namespace approx_rounded
def s29 : PSig := ⟨0, [], [(7, .val (.int .i64)), (8, .val (.list (.int .u32))), (9, .val (.list (.int .u32))), (10, .val (.list (.int .u32)))]⟩
def s41 : PSig := ⟨0, [], [(9, .val (.list (.int .u32))), (10, .val (.list (.int .u32))), (13, .val (.int .u64))]⟩
def fws : Nat → List (FuncId × FW) := fun _ => []
def ptL : List (Pt (TD [(.int .u64), (.int .i64)])) := [⟨29, s29, fun k (x : Int × (List Int) × (List Int) × (List Int)) => approx_rounded.p29 k x.1 x.2.1 x.2.2.1 x.2.2.2⟩, ⟨41, s41, fun k (x : (List Int) × (List Int) × Int) => approx_rounded.p41 k x.1 x.2.1 x.2.2⟩]
def fns : Nat → List (FuncId × FS) := fun k => [(58, ⟨[(.st (.pair (.st (.pair .bool (.list (.int .u32)))) (.list (.int .u32))))], [(.int .i64)], fun (x : ((Bool × (List Int)) × (List Int))) => ratio_Sign.f k x⟩), (111, ⟨[(.list (.int .u32))], [(.int .i64)], fun (x : (List Int)) => nat_Bits.f k x⟩), (36, ⟨[.flt], [(.int .u64)], fun (x : Nat) => math_Float64bits.f k x⟩), (112, ⟨[(.list (.int .u32)), (.list (.int .u32)), (.int .i64)], [(.list (.int .u32)), (.list (.int .u32)), (.list (.int .u32))], fun (x : (List Int) × (List Int) × Int) => approx_cut.f k x.1 x.2.1 x.2.2⟩), (113, ⟨[(.list (.int .u32))], [(.int .u64), .bool], fun (x : (List Int)) => nat_Small.f k x⟩), (115, ⟨[(.list (.int .u32)), (.list (.int .u32))], [(.list (.int .u32))], fun (x : (List Int) × (List Int)) => nat_Add.f k x.1 x.2⟩), (114, ⟨[(.list (.int .u32)), (.list (.int .u32))], [(.int .i64)], fun (x : (List Int) × (List Int)) => nat_Cmp.f k x.1 x.2⟩)]
def fgs : Nat → List (FuncId × FG) := fun _ => []
def fs (k : Nat) : FS := ⟨[(.st (.pair (.st (.pair .bool (.list (.int .u32)))) (.list (.int .u32))))], [(.int .u64), (.int .i64)], fun (x : ((Bool × (List Int)) × (List Int))) => approx_rounded.f k x⟩
theorem ok : FnOk Tryz.prog 85 89 Tryz.f85.results.toList (Tryz.f85.body.getD .skip) 1 := ⟨⟨Tryz.f85, by kernel_rfl, by kernel_rfl, by kernel_rfl, rfl, by kernel_rfl⟩, by kernel_rfl, by decide⟩
theorem c (k : Nat) : Contract Tryz.prog 85 (fs k) :=
  fn_sound (ps := [(.st (.pair (.st (.pair .bool (.list (.int .u32)))) (.list (.int .u32))))]) (rs := [(.int .u64), (.int .i64)]) (pts := ptL) (fns := fns) (fgs := fgs) (fws := fws) (tys := tyTab) (main := fun k (x : ((Bool × (List Int)) × (List Int))) => approx_rounded.f k x) ok mix tyOk ⟨⟨rfl, fun _ => rfl, fun k x => by kernel_rfl⟩, ⟨rfl, fun _ => rfl, fun k x => by kernel_rfl⟩, trivial⟩ (fun k x => by kernel_rfl) (fun k => ⟨⟨ratio_Sign.c k, nat_Bits.c k, math_Float64bits.c k, approx_cut.c k, nat_Small.c k, nat_Add.c k, nat_Cmp.c k, trivial⟩, trivial, trivial⟩) k
end approx_rounded

namespace math_Float64frombits
theorem c (k : Nat) : Contract Tryz.prog 59 ⟨[(.int .u64)], [.flt], fun (x : Int) => math_Float64frombits.f k x⟩ :=
  float64frombits_contract (fn := Tryz.f59) (by kernel_rfl) (by kernel_rfl) (by kernel_rfl) (by kernel_rfl) (by kernel_rfl) (fun _ => rfl)
end math_Float64frombits

namespace approx_float
def s7 : PSig := ⟨0, [], [(0, .val (.int .u64))]⟩
def fws : Nat → List (FuncId × FW) := fun _ => []
def ptL : List (Pt (TD [.flt])) := [⟨7, s7, fun k (x : Int) => approx_float.p7 k x⟩]
def fns : Nat → List (FuncId × FS) := fun k => [(59, ⟨[(.int .u64)], [.flt], fun (x : Int) => math_Float64frombits.f k x⟩)]
def fgs : Nat → List (FuncId × FG) := fun _ => []
def fs (k : Nat) : FS := ⟨[(.int .u64), (.int .i64)], [.flt], fun (x : Int × Int) => approx_float.f k x.1 x.2⟩
theorem ok : FnOk Tryz.prog 87 11 Tryz.f87.results.toList (Tryz.f87.body.getD .skip) 2 := ⟨⟨Tryz.f87, by kernel_rfl, by kernel_rfl, by kernel_rfl, rfl, by kernel_rfl⟩, by kernel_rfl, by decide⟩
theorem c (k : Nat) : Contract Tryz.prog 87 (fs k) :=
  fn_sound (ps := [(.int .u64), (.int .i64)]) (rs := [.flt]) (pts := ptL) (fns := fns) (fgs := fgs) (fws := fws) (tys := tyTab) (main := fun k (x : Int × Int) => approx_float.f k x.1 x.2) ok mix tyOk ⟨⟨rfl, fun _ => rfl, fun k x => by kernel_rfl⟩, trivial⟩ (fun k x => by kernel_rfl) (fun k => ⟨⟨math_Float64frombits.c k, trivial⟩, trivial, trivial⟩) k
end approx_float

namespace approx_toward
def s9 : PSig := ⟨0, [(27, (.st (.pair (.st (.pair .bool (.list (.int .u32)))) (.list (.int .u32)))), true)], [(2, .ptr 0 []), (5, .val (.int .u64))]⟩
def fws : Nat → List (FuncId × FW) := fun _ => []
def ptL : List (Pt (TD [.flt])) := [⟨9, s9, fun k (x : ((Bool × (List Int)) × (List Int)) × Int) => approx_toward.p9 k x.1 x.2⟩]
def fns : Nat → List (FuncId × FS) := fun k => [(86, ⟨[(.st (.pair (.st (.pair .bool (.list (.int .u32)))) (.list (.int .u32))))], [(.st (.pair (.st (.pair .bool (.list (.int .u32)))) (.list (.int .u32))))], fun (x : ((Bool × (List Int)) × (List Int))) => ratio_Abs.f k x⟩), (85, ⟨[(.st (.pair (.st (.pair .bool (.list (.int .u32)))) (.list (.int .u32))))], [(.int .u64), (.int .i64)], fun (x : ((Bool × (List Int)) × (List Int))) => approx_rounded.f k x⟩), (58, ⟨[(.st (.pair (.st (.pair .bool (.list (.int .u32)))) (.list (.int .u32))))], [(.int .i64)], fun (x : ((Bool × (List Int)) × (List Int))) => ratio_Sign.f k x⟩), (87, ⟨[(.int .u64), (.int .i64)], [.flt], fun (x : Int × Int) => approx_float.f k x.1 x.2⟩)]
def fgs : Nat → List (FuncId × FG) := fun _ => []
def fs (k : Nat) : FS := ⟨[(.st (.pair (.st (.pair .bool (.list (.int .u32)))) (.list (.int .u32)))), .bool], [.flt], fun (x : ((Bool × (List Int)) × (List Int)) × Bool) => approx_toward.f k x.1 x.2⟩
theorem ok : FnOk Tryz.prog 57 24 Tryz.f57.results.toList (Tryz.f57.body.getD .skip) 2 := ⟨⟨Tryz.f57, by kernel_rfl, by kernel_rfl, by kernel_rfl, rfl, by kernel_rfl⟩, by kernel_rfl, by decide⟩
theorem c (k : Nat) : Contract Tryz.prog 57 (fs k) :=
  fn_sound (ps := [(.st (.pair (.st (.pair .bool (.list (.int .u32)))) (.list (.int .u32)))), .bool]) (rs := [.flt]) (pts := ptL) (fns := fns) (fgs := fgs) (fws := fws) (tys := tyTab) (main := fun k (x : ((Bool × (List Int)) × (List Int)) × Bool) => approx_toward.f k x.1 x.2) ok mix tyOk ⟨⟨rfl, fun _ => rfl, fun k x => by kernel_rfl⟩, trivial⟩ (fun k x => by kernel_rfl) (fun k => ⟨⟨ratio_Abs.c k, approx_rounded.c k, ratio_Sign.c k, approx_float.c k, trivial⟩, trivial, trivial⟩) k
end approx_toward

namespace approx_Down
def fws : Nat → List (FuncId × FW) := fun _ => []
def ptL : List (Pt (TD [.flt])) := []
def fns : Nat → List (FuncId × FS) := fun k => [(58, ⟨[(.st (.pair (.st (.pair .bool (.list (.int .u32)))) (.list (.int .u32))))], [(.int .i64)], fun (x : ((Bool × (List Int)) × (List Int))) => ratio_Sign.f k x⟩), (57, ⟨[(.st (.pair (.st (.pair .bool (.list (.int .u32)))) (.list (.int .u32)))), .bool], [.flt], fun (x : ((Bool × (List Int)) × (List Int)) × Bool) => approx_toward.f k x.1 x.2⟩)]
def fgs : Nat → List (FuncId × FG) := fun _ => []
def fs (k : Nat) : FS := ⟨[(.st (.pair (.st (.pair .bool (.list (.int .u32)))) (.list (.int .u32))))], [.flt], fun (x : ((Bool × (List Int)) × (List Int))) => approx_Down.f k x⟩
theorem ok : FnOk Tryz.prog 25 8 Tryz.f25.results.toList (Tryz.f25.body.getD .skip) 1 := ⟨⟨Tryz.f25, by kernel_rfl, by kernel_rfl, by kernel_rfl, rfl, by kernel_rfl⟩, by kernel_rfl, by decide⟩
theorem c (k : Nat) : Contract Tryz.prog 25 (fs k) :=
  fn_sound (ps := [(.st (.pair (.st (.pair .bool (.list (.int .u32)))) (.list (.int .u32))))]) (rs := [.flt]) (pts := ptL) (fns := fns) (fgs := fgs) (fws := fws) (tys := tyTab) (main := fun k (x : ((Bool × (List Int)) × (List Int))) => approx_Down.f k x) ok mix tyOk trivial (fun k x => by kernel_rfl) (fun k => ⟨⟨ratio_Sign.c k, approx_toward.c k, trivial⟩, trivial, trivial⟩) k
end approx_Down

namespace approx_Up
def fws : Nat → List (FuncId × FW) := fun _ => []
def ptL : List (Pt (TD [.flt])) := []
def fns : Nat → List (FuncId × FS) := fun k => [(58, ⟨[(.st (.pair (.st (.pair .bool (.list (.int .u32)))) (.list (.int .u32))))], [(.int .i64)], fun (x : ((Bool × (List Int)) × (List Int))) => ratio_Sign.f k x⟩), (57, ⟨[(.st (.pair (.st (.pair .bool (.list (.int .u32)))) (.list (.int .u32)))), .bool], [.flt], fun (x : ((Bool × (List Int)) × (List Int)) × Bool) => approx_toward.f k x.1 x.2⟩)]
def fgs : Nat → List (FuncId × FG) := fun _ => []
def fs (k : Nat) : FS := ⟨[(.st (.pair (.st (.pair .bool (.list (.int .u32)))) (.list (.int .u32))))], [.flt], fun (x : ((Bool × (List Int)) × (List Int))) => approx_Up.f k x⟩
theorem ok : FnOk Tryz.prog 26 8 Tryz.f26.results.toList (Tryz.f26.body.getD .skip) 1 := ⟨⟨Tryz.f26, by kernel_rfl, by kernel_rfl, by kernel_rfl, rfl, by kernel_rfl⟩, by kernel_rfl, by decide⟩
theorem c (k : Nat) : Contract Tryz.prog 26 (fs k) :=
  fn_sound (ps := [(.st (.pair (.st (.pair .bool (.list (.int .u32)))) (.list (.int .u32))))]) (rs := [.flt]) (pts := ptL) (fns := fns) (fgs := fgs) (fws := fws) (tys := tyTab) (main := fun k (x : ((Bool × (List Int)) × (List Int))) => approx_Up.f k x) ok mix tyOk trivial (fun k x => by kernel_rfl) (fun k => ⟨⟨ratio_Sign.c k, approx_toward.c k, trivial⟩, trivial, trivial⟩) k
end approx_Up

namespace approx_Around
def fws : Nat → List (FuncId × FW) := fun _ => []
def ptL : List (Pt (TD [(.st (.pair .flt .flt))])) := []
def fns : Nat → List (FuncId × FS) := fun k => [(25, ⟨[(.st (.pair (.st (.pair .bool (.list (.int .u32)))) (.list (.int .u32))))], [.flt], fun (x : ((Bool × (List Int)) × (List Int))) => approx_Down.f k x⟩), (26, ⟨[(.st (.pair (.st (.pair .bool (.list (.int .u32)))) (.list (.int .u32))))], [.flt], fun (x : ((Bool × (List Int)) × (List Int))) => approx_Up.f k x⟩)]
def fgs : Nat → List (FuncId × FG) := fun _ => []
def fs (k : Nat) : FS := ⟨[(.st (.pair (.st (.pair .bool (.list (.int .u32)))) (.list (.int .u32))))], [(.st (.pair .flt .flt))], fun (x : ((Bool × (List Int)) × (List Int))) => approx_Around.f k x⟩
theorem ok : FnOk Tryz.prog 6 8 Tryz.f6.results.toList (Tryz.f6.body.getD .skip) 1 := ⟨⟨Tryz.f6, by kernel_rfl, by kernel_rfl, by kernel_rfl, rfl, by kernel_rfl⟩, by kernel_rfl, by decide⟩
theorem c (k : Nat) : Contract Tryz.prog 6 (fs k) :=
  fn_sound (ps := [(.st (.pair (.st (.pair .bool (.list (.int .u32)))) (.list (.int .u32))))]) (rs := [(.st (.pair .flt .flt))]) (pts := ptL) (fns := fns) (fgs := fgs) (fws := fws) (tys := tyTab) (main := fun k (x : ((Bool × (List Int)) × (List Int))) => approx_Around.f k x) ok mix tyOk trivial (fun k x => by kernel_rfl) (fun k => ⟨⟨approx_Down.c k, approx_Up.c k, trivial⟩, trivial, trivial⟩) k
end approx_Around

namespace ref01_Bit
def fws : Nat → List (FuncId × FW) := fun _ => []
def ptL : List (Pt (TD [.bool])) := []
def fns : Nat → List (FuncId × FS) := fun _ => []
def fgs : Nat → List (FuncId × FG) := fun _ => []
def fs (k : Nat) : FS := ⟨[(.list (.int .u32)), (.int .i64)], [.bool], fun (x : (List Int) × Int) => ref01_Bit.f k x.1 x.2⟩
theorem ok : FnOk Tryz.prog 100 27 Tryz.f100.results.toList (Tryz.f100.body.getD .skip) 2 := ⟨⟨Tryz.f100, by kernel_rfl, by kernel_rfl, by kernel_rfl, rfl, by kernel_rfl⟩, by kernel_rfl, by decide⟩
theorem c (k : Nat) : Contract Tryz.prog 100 (fs k) :=
  fn_sound (ps := [(.list (.int .u32)), (.int .i64)]) (rs := [.bool]) (pts := ptL) (fns := fns) (fgs := fgs) (fws := fws) (tys := tyTab) (main := fun k (x : (List Int) × Int) => ref01_Bit.f k x.1 x.2) ok mix tyOk trivial (fun k x => by kernel_rfl) (fun _ => ⟨trivial, trivial, trivial⟩) k
end ref01_Bit

namespace ref01_Bits
def s0 : PSig := ⟨0, [], [(0, .val (.list (.int .u32))), (3, .val (.int .i64))]⟩
def fws : Nat → List (FuncId × FW) := fun _ => []
def ptL : List (Pt (TD [(.int .i64)])) := [⟨0, s0, fun k (x : (List Int) × Int) => ref01_Bits.p0 k x.1 x.2⟩]
def fns : Nat → List (FuncId × FS) := fun k => [(100, ⟨[(.list (.int .u32)), (.int .i64)], [.bool], fun (x : (List Int) × Int) => ref01_Bit.f k x.1 x.2⟩)]
def fgs : Nat → List (FuncId × FG) := fun _ => []
def fs (k : Nat) : FS := ⟨[(.list (.int .u32))], [(.int .i64)], fun (x : (List Int)) => ref01_Bits.f k x⟩
theorem ok : FnOk Tryz.prog 117 17 Tryz.f117.results.toList (Tryz.f117.body.getD .skip) 1 := ⟨⟨Tryz.f117, by kernel_rfl, by kernel_rfl, by kernel_rfl, rfl, by kernel_rfl⟩, by kernel_rfl, by decide⟩
theorem c (k : Nat) : Contract Tryz.prog 117 (fs k) :=
  fn_sound (ps := [(.list (.int .u32))]) (rs := [(.int .i64)]) (pts := ptL) (fns := fns) (fgs := fgs) (fws := fws) (tys := tyTab) (main := fun k (x : (List Int)) => ref01_Bits.f k x) ok mix tyOk ⟨⟨rfl, fun _ => rfl, fun k x => by kernel_rfl⟩, trivial⟩ (fun k x => by kernel_rfl) (fun k => ⟨⟨ref01_Bit.c k, trivial⟩, trivial, trivial⟩) k
end ref01_Bits

namespace ref04_amount
def s9 : PSig := ⟨0, [(27, (.st (.pair (.st (.pair .bool (.list (.int .u32)))) (.list (.int .u32)))), true), (27, (.st (.pair (.st (.pair .bool (.list (.int .u32)))) (.list (.int .u32)))), true)], [(2, .ptr 0 []), (4, .ptr 1 [])]⟩
def fws : Nat → List (FuncId × FW) := fun _ => []
def ptL : List (Pt (TD [(.st (.pair (.st (.pair .bool (.list (.int .u32)))) (.list (.int .u32)))), (.int .u64)])) := [⟨9, s9, fun k (x : ((Bool × (List Int)) × (List Int)) × ((Bool × (List Int)) × (List Int))) => ref04_amount.p9 k x.1 x.2⟩]
def fns : Nat → List (FuncId × FS) := fun k => [(117, ⟨[(.list (.int .u32))], [(.int .i64)], fun (x : (List Int)) => ref01_Bits.f k x⟩)]
def fgs : Nat → List (FuncId × FG) := fun _ => []
def fs (k : Nat) : FS := ⟨[(.st (.pair (.st (.pair .bool (.list (.int .u32)))) (.list (.int .u32))))], [(.st (.pair (.st (.pair .bool (.list (.int .u32)))) (.list (.int .u32)))), (.int .u64)], fun (x : ((Bool × (List Int)) × (List Int))) => ref04_amount.f k x⟩
theorem ok : FnOk Tryz.prog 90 30 Tryz.f90.results.toList (Tryz.f90.body.getD .skip) 1 := ⟨⟨Tryz.f90, by kernel_rfl, by kernel_rfl, by kernel_rfl, rfl, by kernel_rfl⟩, by kernel_rfl, by decide⟩
theorem c (k : Nat) : Contract Tryz.prog 90 (fs k) :=
  fn_sound (ps := [(.st (.pair (.st (.pair .bool (.list (.int .u32)))) (.list (.int .u32))))]) (rs := [(.st (.pair (.st (.pair .bool (.list (.int .u32)))) (.list (.int .u32)))), (.int .u64)]) (pts := ptL) (fns := fns) (fgs := fgs) (fws := fws) (tys := tyTab) (main := fun k (x : ((Bool × (List Int)) × (List Int))) => ref04_amount.f k x) ok mix tyOk ⟨⟨rfl, fun _ => rfl, fun k x => by kernel_rfl⟩, trivial⟩ (fun k x => by kernel_rfl) (fun k => ⟨⟨ref01_Bits.c k, trivial⟩, trivial, trivial⟩) k
end ref04_amount

namespace ref01_Norm
def s0 : PSig := ⟨0, [], [(0, .val (.list (.int .u32))), (3, .val (.int .i64))]⟩
def s9 : PSig := ⟨0, [], [(0, .val (.list (.int .u32))), (3, .val (.int .i64))]⟩
def s4 : PSig := ⟨0, [(80, (.int .u32), false)], [(0, .val (.list (.int .u32))), (3, .val (.int .i64)), (4, .own 0), (5, .val (.int .i64))]⟩
def fws : Nat → List (FuncId × FW) := fun _ => []
def ptL : List (Pt (TD [(.list (.int .u32))])) := [⟨0, s0, fun k (x : (List Int) × Int) => ref01_Norm.p0 k x.1 x.2⟩, ⟨9, s9, fun k (x : (List Int) × Int) => ref01_Norm.p9 k x.1 x.2⟩, ⟨4, s4, fun k (x : (List Int) × (List Int) × Int × Int) => ref01_Norm.p4 k x.1 x.2.1 x.2.2.1 x.2.2.2⟩]
def fns : Nat → List (FuncId × FS) := fun _ => []
def fgs : Nat → List (FuncId × FG) := fun _ => []
def fs (k : Nat) : FS := ⟨[(.list (.int .u32))], [(.list (.int .u32))], fun (x : (List Int)) => ref01_Norm.f k x⟩
theorem ok : FnOk Tryz.prog 65 35 Tryz.f65.results.toList (Tryz.f65.body.getD .skip) 1 := ⟨⟨Tryz.f65, by kernel_rfl, by kernel_rfl, by kernel_rfl, rfl, by kernel_rfl⟩, by kernel_rfl, by decide⟩
theorem c (k : Nat) : Contract Tryz.prog 65 (fs k) :=
  fn_sound (ps := [(.list (.int .u32))]) (rs := [(.list (.int .u32))]) (pts := ptL) (fns := fns) (fgs := fgs) (fws := fws) (tys := tyTab) (main := fun k (x : (List Int)) => ref01_Norm.f k x) ok mix tyOk ⟨⟨rfl, fun _ => rfl, fun k x => by kernel_rfl⟩, ⟨rfl, fun _ => rfl, fun k x => by kernel_rfl⟩, ⟨rfl, fun _ => rfl, fun k x => by kernel_rfl⟩, trivial⟩ (fun k x => by kernel_rfl) (fun _ => ⟨trivial, trivial, trivial⟩) k
end ref01_Norm

namespace ref01_Shift
def s5 : PSig := ⟨0, [], []⟩
def s17 : PSig := ⟨0, [], [(0, .val (.list (.int .u32))), (1, .val (.int .i64)), (6, .val (.int .i64))]⟩
def s29 : PSig := ⟨0, [(80, (.int .u32), false)], [(0, .val (.list (.int .u32))), (6, .val (.int .i64)), (7, .own 0), (8, .val (.int .i64)), (9, .val (.int .i64))]⟩
def s0 : PSig := ⟨0, [(80, (.int .u32), false)], [(0, .val (.list (.int .u32))), (6, .val (.int .i64)), (7, .own 0), (8, .val (.int .i64)), (9, .val (.int .i64)), (10, .val (.int .i64))]⟩
def s41 : PSig := ⟨0, [(80, (.int .u32), false)], [(0, .val (.list (.int .u32))), (6, .val (.int .i64)), (7, .own 0), (8, .val (.int .i64)), (9, .val (.int .i64)), (10, .val (.int .i64)), (11, .val (.int .u64))]⟩
def s33 : PSig := ⟨0, [(80, (.int .u32), false)], [(0, .val (.list (.int .u32))), (6, .val (.int .i64)), (7, .own 0), (8, .val (.int .i64)), (9, .val (.int .i64)), (10, .val (.int .i64))]⟩
def fws : Nat → List (FuncId × FW) := fun _ => []
def ptL : List (Pt (TD [(.list (.int .u32)), (.int .i64)])) := [⟨5, s5, fun k (x : Unit) => ref01_Shift.p5 k x⟩, ⟨17, s17, fun k (x : (List Int) × Int × Int) => ref01_Shift.p17 k x.1 x.2.1 x.2.2⟩, ⟨29, s29, fun k (x : (List Int) × (List Int) × Int × Int × Int) => ref01_Shift.p29 k x.1 x.2.1 x.2.2.1 x.2.2.2.1 x.2.2.2.2⟩, ⟨0, s0, fun k (x : (List Int) × (List Int) × Int × Int × Int × Int) => ref01_Shift.p0 k x.1 x.2.1 x.2.2.1 x.2.2.2.1 x.2.2.2.2.1 x.2.2.2.2.2⟩, ⟨41, s41, fun k (x : (List Int) × (List Int) × Int × Int × Int × Int × Int) => ref01_Shift.p41 k x.1 x.2.1 x.2.2.1 x.2.2.2.1 x.2.2.2.2.1 x.2.2.2.2.2.1 x.2.2.2.2.2.2⟩, ⟨33, s33, fun k (x : (List Int) × (List Int) × Int × Int × Int × Int) => ref01_Shift.p33 k x.1 x.2.1 x.2.2.1 x.2.2.2.1 x.2.2.2.2.1 x.2.2.2.2.2⟩]
def fns : Nat → List (FuncId × FS) := fun k => [(65, ⟨[(.list (.int .u32))], [(.list (.int .u32))], fun (x : (List Int)) => ref01_Norm.f k x⟩)]
def fgs : Nat → List (FuncId × FG) := fun _ => []
def fs (k : Nat) : FS := ⟨[(.list (.int .u32)), (.int .i64)], [(.list (.int .u32)), (.int .i64)], fun (x : (List Int) × Int) => ref01_Shift.f k x.1 x.2⟩
theorem ok : FnOk Tryz.prog 101 106 Tryz.f101.results.toList (Tryz.f101.body.getD .skip) 2 := ⟨⟨Tryz.f101, by kernel_rfl, by kernel_rfl, by kernel_rfl, rfl, by kernel_rfl⟩, by kernel_rfl, by decide⟩
theorem c (k : Nat) : Contract Tryz.prog 101 (fs k) :=
  fn_sound (ps := [(.list (.int .u32)), (.int .i64)]) (rs := [(.list (.int .u32)), (.int .i64)]) (pts := ptL) (fns := fns) (fgs := fgs) (fws := fws) (tys := tyTab) (main := fun k (x : (List Int) × Int) => ref01_Shift.f k x.1 x.2) ok mix tyOk ⟨⟨rfl, fun _ => rfl, fun k x => by kernel_rfl⟩, ⟨rfl, fun _ => rfl, fun k x => by kernel_rfl⟩, ⟨rfl, fun _ => rfl, fun k x => by kernel_rfl⟩, ⟨rfl, fun _ => rfl, fun k x => by kernel_rfl⟩, ⟨rfl, fun _ => rfl, fun k x => by kernel_rfl⟩, ⟨rfl, fun _ => rfl, fun k x => by kernel_rfl⟩, trivial⟩ (fun k x => by kernel_rfl) (fun k => ⟨⟨ref01_Norm.c k, trivial⟩, trivial, trivial⟩) k
end ref01_Shift

namespace ref01_twice
def s11 : PSig := ⟨0, [(80, (.int .u32), false)], [(0, .val (.list (.int .u32))), (5, .own 0), (6, .val (.int .u32))]⟩
def s0 : PSig := ⟨0, [(80, (.int .u32), false)], [(0, .val (.list (.int .u32))), (5, .own 0), (6, .val (.int .u32)), (7, .val (.int .i64))]⟩
def fws : Nat → List (FuncId × FW) := fun _ => []
def ptL : List (Pt (TD [(.list (.int .u32))])) := [⟨11, s11, fun k (x : (List Int) × (List Int) × Int) => ref01_twice.p11 k x.1 x.2.1 x.2.2⟩, ⟨0, s0, fun k (x : (List Int) × (List Int) × Int × Int) => ref01_twice.p0 k x.1 x.2.1 x.2.2.1 x.2.2.2⟩]
def fns : Nat → List (FuncId × FS) := fun k => [(65, ⟨[(.list (.int .u32))], [(.list (.int .u32))], fun (x : (List Int)) => ref01_Norm.f k x⟩)]
def fgs : Nat → List (FuncId × FG) := fun _ => []
def fs (k : Nat) : FS := ⟨[(.list (.int .u32)), .bool], [(.list (.int .u32))], fun (x : (List Int) × Bool) => ref01_twice.f k x.1 x.2⟩
theorem ok : FnOk Tryz.prog 102 41 Tryz.f102.results.toList (Tryz.f102.body.getD .skip) 2 := ⟨⟨Tryz.f102, by kernel_rfl, by kernel_rfl, by kernel_rfl, rfl, by kernel_rfl⟩, by kernel_rfl, by decide⟩
theorem c (k : Nat) : Contract Tryz.prog 102 (fs k) :=
  fn_sound (ps := [(.list (.int .u32)), .bool]) (rs := [(.list (.int .u32))]) (pts := ptL) (fns := fns) (fgs := fgs) (fws := fws) (tys := tyTab) (main := fun k (x : (List Int) × Bool) => ref01_twice.f k x.1 x.2) ok mix tyOk ⟨⟨rfl, fun _ => rfl, fun k x => by kernel_rfl⟩, ⟨rfl, fun _ => rfl, fun k x => by kernel_rfl⟩, trivial⟩ (fun k x => by kernel_rfl) (fun k => ⟨⟨ref01_Norm.c k, trivial⟩, trivial, trivial⟩) k
end ref01_twice

namespace ref01_at
def fws : Nat → List (FuncId × FW) := fun _ => []
def ptL : List (Pt (TD [(.int .u64)])) := []
def fns : Nat → List (FuncId × FS) := fun _ => []
def fgs : Nat → List (FuncId × FG) := fun _ => []
def fs (k : Nat) : FS := ⟨[(.list (.int .u32)), (.int .i64)], [(.int .u64)], fun (x : (List Int) × Int) => ref01_at.f k x.1 x.2⟩
theorem ok : FnOk Tryz.prog 110 14 Tryz.f110.results.toList (Tryz.f110.body.getD .skip) 2 := ⟨⟨Tryz.f110, by kernel_rfl, by kernel_rfl, by kernel_rfl, rfl, by kernel_rfl⟩, by kernel_rfl, by decide⟩
theorem c (k : Nat) : Contract Tryz.prog 110 (fs k) :=
  fn_sound (ps := [(.list (.int .u32)), (.int .i64)]) (rs := [(.int .u64)]) (pts := ptL) (fns := fns) (fgs := fgs) (fws := fws) (tys := tyTab) (main := fun k (x : (List Int) × Int) => ref01_at.f k x.1 x.2) ok mix tyOk trivial (fun k x => by kernel_rfl) (fun _ => ⟨trivial, trivial, trivial⟩) k
end ref01_at

namespace ref01_Cmp
def s9 : PSig := ⟨0, [], [(0, .val (.list (.int .u32))), (1, .val (.list (.int .u32))), (5, .val (.int .i64))]⟩
def s0 : PSig := ⟨0, [], [(0, .val (.list (.int .u32))), (1, .val (.list (.int .u32))), (6, .val (.int .i64))]⟩
def fws : Nat → List (FuncId × FW) := fun _ => []
def ptL : List (Pt (TD [(.int .i64)])) := [⟨9, s9, fun k (x : (List Int) × (List Int) × Int) => ref01_Cmp.p9 k x.1 x.2.1 x.2.2⟩, ⟨0, s0, fun k (x : (List Int) × (List Int) × Int) => ref01_Cmp.p0 k x.1 x.2.1 x.2.2⟩]
def fns : Nat → List (FuncId × FS) := fun k => [(110, ⟨[(.list (.int .u32)), (.int .i64)], [(.int .u64)], fun (x : (List Int) × Int) => ref01_at.f k x.1 x.2⟩)]
def fgs : Nat → List (FuncId × FG) := fun _ => []
def fs (k : Nat) : FS := ⟨[(.list (.int .u32)), (.list (.int .u32))], [(.int .i64)], fun (x : (List Int) × (List Int)) => ref01_Cmp.f k x.1 x.2⟩
theorem ok : FnOk Tryz.prog 81 35 Tryz.f81.results.toList (Tryz.f81.body.getD .skip) 2 := ⟨⟨Tryz.f81, by kernel_rfl, by kernel_rfl, by kernel_rfl, rfl, by kernel_rfl⟩, by kernel_rfl, by decide⟩
theorem c (k : Nat) : Contract Tryz.prog 81 (fs k) :=
  fn_sound (ps := [(.list (.int .u32)), (.list (.int .u32))]) (rs := [(.int .i64)]) (pts := ptL) (fns := fns) (fgs := fgs) (fws := fws) (tys := tyTab) (main := fun k (x : (List Int) × (List Int)) => ref01_Cmp.f k x.1 x.2) ok mix tyOk ⟨⟨rfl, fun _ => rfl, fun k x => by kernel_rfl⟩, ⟨rfl, fun _ => rfl, fun k x => by kernel_rfl⟩, trivial⟩ (fun k x => by kernel_rfl) (fun k => ⟨⟨ref01_at.c k, trivial⟩, trivial, trivial⟩) k
end ref01_Cmp

namespace ref01_Sub
def s0 : PSig := ⟨0, [(80, (.int .u32), false)], [(0, .val (.list (.int .u32))), (1, .val (.list (.int .u32))), (6, .own 0), (7, .val (.int .u64)), (8, .val (.int .i64))]⟩
def fws : Nat → List (FuncId × FW) := fun _ => []
def ptL : List (Pt (TD [(.list (.int .u32)), (.int .i64)])) := [⟨0, s0, fun k (x : (List Int) × (List Int) × (List Int) × Int × Int) => ref01_Sub.p0 k x.1 x.2.1 x.2.2.1 x.2.2.2.1 x.2.2.2.2⟩]
def fns : Nat → List (FuncId × FS) := fun k => [(81, ⟨[(.list (.int .u32)), (.list (.int .u32))], [(.int .i64)], fun (x : (List Int) × (List Int)) => ref01_Cmp.f k x.1 x.2⟩), (110, ⟨[(.list (.int .u32)), (.int .i64)], [(.int .u64)], fun (x : (List Int) × Int) => ref01_at.f k x.1 x.2⟩), (65, ⟨[(.list (.int .u32))], [(.list (.int .u32))], fun (x : (List Int)) => ref01_Norm.f k x⟩)]
def fgs : Nat → List (FuncId × FG) := fun _ => []
def fs (k : Nat) : FS := ⟨[(.list (.int .u32)), (.list (.int .u32))], [(.list (.int .u32)), (.int .i64)], fun (x : (List Int) × (List Int)) => ref01_Sub.f k x.1 x.2⟩
theorem ok : FnOk Tryz.prog 82 41 Tryz.f82.results.toList (Tryz.f82.body.getD .skip) 2 := ⟨⟨Tryz.f82, by kernel_rfl, by kernel_rfl, by kernel_rfl, rfl, by kernel_rfl⟩, by kernel_rfl, by decide⟩
theorem c (k : Nat) : Contract Tryz.prog 82 (fs k) :=
  fn_sound (ps := [(.list (.int .u32)), (.list (.int .u32))]) (rs := [(.list (.int .u32)), (.int .i64)]) (pts := ptL) (fns := fns) (fgs := fgs) (fws := fws) (tys := tyTab) (main := fun k (x : (List Int) × (List Int)) => ref01_Sub.f k x.1 x.2) ok mix tyOk ⟨⟨rfl, fun _ => rfl, fun k x => by kernel_rfl⟩, trivial⟩ (fun k x => by kernel_rfl) (fun k => ⟨⟨ref01_Cmp.c k, ref01_at.c k, ref01_Norm.c k, trivial⟩, trivial, trivial⟩) k
end ref01_Sub

namespace ref01_Div
def s19 : PSig := ⟨0, [(80, (.int .u32), false)], [(0, .val (.list (.int .u32))), (1, .val (.list (.int .u32))), (7, .own 0), (8, .val (.int .i64))]⟩
def s0 : PSig := ⟨0, [(80, (.int .u32), false)], [(0, .val (.list (.int .u32))), (1, .val (.list (.int .u32))), (7, .own 0), (9, .val (.list (.int .u32))), (10, .val (.int .i64))]⟩
def s25 : PSig := ⟨0, [(80, (.int .u32), false)], [(0, .val (.list (.int .u32))), (1, .val (.list (.int .u32))), (7, .own 0), (9, .val (.list (.int .u32))), (10, .val (.int .i64))]⟩
def fws : Nat → List (FuncId × FW) := fun _ => []
def ptL : List (Pt (TD [(.list (.int .u32)), (.list (.int .u32)), (.int .i64)])) := [⟨19, s19, fun k (x : (List Int) × (List Int) × (List Int) × Int) => ref01_Div.p19 k x.1 x.2.1 x.2.2.1 x.2.2.2⟩, ⟨0, s0, fun k (x : (List Int) × (List Int) × (List Int) × (List Int) × Int) => ref01_Div.p0 k x.1 x.2.1 x.2.2.1 x.2.2.2.1 x.2.2.2.2⟩, ⟨25, s25, fun k (x : (List Int) × (List Int) × (List Int) × (List Int) × Int) => ref01_Div.p25 k x.1 x.2.1 x.2.2.1 x.2.2.2.1 x.2.2.2.2⟩]
def fns : Nat → List (FuncId × FS) := fun k => [(65, ⟨[(.list (.int .u32))], [(.list (.int .u32))], fun (x : (List Int)) => ref01_Norm.f k x⟩), (100, ⟨[(.list (.int .u32)), (.int .i64)], [.bool], fun (x : (List Int) × Int) => ref01_Bit.f k x.1 x.2⟩), (102, ⟨[(.list (.int .u32)), .bool], [(.list (.int .u32))], fun (x : (List Int) × Bool) => ref01_twice.f k x.1 x.2⟩), (81, ⟨[(.list (.int .u32)), (.list (.int .u32))], [(.int .i64)], fun (x : (List Int) × (List Int)) => ref01_Cmp.f k x.1 x.2⟩), (82, ⟨[(.list (.int .u32)), (.list (.int .u32))], [(.list (.int .u32)), (.int .i64)], fun (x : (List Int) × (List Int)) => ref01_Sub.f k x.1 x.2⟩)]
def fgs : Nat → List (FuncId × FG) := fun _ => []
def fs (k : Nat) : FS := ⟨[(.list (.int .u32)), (.list (.int .u32))], [(.list (.int .u32)), (.list (.int .u32)), (.int .i64)], fun (x : (List Int) × (List Int)) => ref01_Div.f k x.1 x.2⟩
theorem ok : FnOk Tryz.prog 67 76 Tryz.f67.results.toList (Tryz.f67.body.getD .skip) 2 := ⟨⟨Tryz.f67, by kernel_rfl, by kernel_rfl, by kernel_rfl, rfl, by kernel_rfl⟩, by kernel_rfl, by decide⟩
theorem c (k : Nat) : Contract Tryz.prog 67 (fs k) :=
  fn_sound (ps := [(.list (.int .u32)), (.list (.int .u32))]) (rs := [(.list (.int .u32)), (.list (.int .u32)), (.int .i64)]) (pts := ptL) (fns := fns) (fgs := fgs) (fws := fws) (tys := tyTab) (main := fun k (x : (List Int) × (List Int)) => ref01_Div.f k x.1 x.2) ok mix tyOk ⟨⟨rfl, fun _ => rfl, fun k x => by kernel_rfl⟩, ⟨rfl, fun _ => rfl, fun k x => by kernel_rfl⟩, ⟨rfl, fun _ => rfl, fun k x => by kernel_rfl⟩, trivial⟩ (fun k x => by kernel_rfl) (fun k => ⟨⟨ref01_Norm.c k, ref01_Bit.c k, ref01_twice.c k, ref01_Cmp.c k, ref01_Sub.c k, trivial⟩, trivial, trivial⟩) k
end ref01_Div

namespace ref04_quotient
def s13 : PSig := ⟨0, [], [(6, .val (.list (.int .u32))), (7, .val (.list (.int .u32)))]⟩
def fws : Nat → List (FuncId × FW) := fun _ => []
def ptL : List (Pt (TD [(.list (.int .u32)), .bool])) := [⟨13, s13, fun k (x : (List Int) × (List Int)) => ref04_quotient.p13 k x.1 x.2⟩]
def fns : Nat → List (FuncId × FS) := fun k => [(101, ⟨[(.list (.int .u32)), (.int .i64)], [(.list (.int .u32)), (.int .i64)], fun (x : (List Int) × Int) => ref01_Shift.f k x.1 x.2⟩), (67, ⟨[(.list (.int .u32)), (.list (.int .u32))], [(.list (.int .u32)), (.list (.int .u32)), (.int .i64)], fun (x : (List Int) × (List Int)) => ref01_Div.f k x.1 x.2⟩), (117, ⟨[(.list (.int .u32))], [(.int .i64)], fun (x : (List Int)) => ref01_Bits.f k x⟩)]
def fgs : Nat → List (FuncId × FG) := fun _ => []
def fs (k : Nat) : FS := ⟨[(.st (.pair (.st (.pair .bool (.list (.int .u32)))) (.list (.int .u32)))), (.int .i64)], [(.list (.int .u32)), .bool], fun (x : ((Bool × (List Int)) × (List Int)) × Int) => ref04_quotient.f k x.1 x.2⟩
theorem ok : FnOk Tryz.prog 118 42 Tryz.f118.results.toList (Tryz.f118.body.getD .skip) 2 := ⟨⟨Tryz.f118, by kernel_rfl, by kernel_rfl, by kernel_rfl, rfl, by kernel_rfl⟩, by kernel_rfl, by decide⟩
theorem c (k : Nat) : Contract Tryz.prog 118 (fs k) :=
  fn_sound (ps := [(.st (.pair (.st (.pair .bool (.list (.int .u32)))) (.list (.int .u32)))), (.int .i64)]) (rs := [(.list (.int .u32)), .bool]) (pts := ptL) (fns := fns) (fgs := fgs) (fws := fws) (tys := tyTab) (main := fun k (x : ((Bool × (List Int)) × (List Int)) × Int) => ref04_quotient.f k x.1 x.2) ok mix tyOk ⟨⟨rfl, fun _ => rfl, fun k x => by kernel_rfl⟩, trivial⟩ (fun k x => by kernel_rfl) (fun k => ⟨⟨ref01_Shift.c k, ref01_Div.c k, ref01_Bits.c k, trivial⟩, trivial, trivial⟩) k
end ref04_quotient

namespace ref01_Small
def s0 : PSig := ⟨0, [], [(0, .val (.list (.int .u32))), (4, .val (.int .u64)), (5, .val (.int .i64))]⟩
def fws : Nat → List (FuncId × FW) := fun _ => []
def ptL : List (Pt (TD [(.int .u64), .bool])) := [⟨0, s0, fun k (x : (List Int) × Int × Int) => ref01_Small.p0 k x.1 x.2.1 x.2.2⟩]
def fns : Nat → List (FuncId × FS) := fun k => [(65, ⟨[(.list (.int .u32))], [(.list (.int .u32))], fun (x : (List Int)) => ref01_Norm.f k x⟩)]
def fgs : Nat → List (FuncId × FG) := fun _ => []
def fs (k : Nat) : FS := ⟨[(.list (.int .u32))], [(.int .u64), .bool], fun (x : (List Int)) => ref01_Small.f k x⟩
theorem ok : FnOk Tryz.prog 119 27 Tryz.f119.results.toList (Tryz.f119.body.getD .skip) 1 := ⟨⟨Tryz.f119, by kernel_rfl, by kernel_rfl, by kernel_rfl, rfl, by kernel_rfl⟩, by kernel_rfl, by decide⟩
theorem c (k : Nat) : Contract Tryz.prog 119 (fs k) :=
  fn_sound (ps := [(.list (.int .u32))]) (rs := [(.int .u64), .bool]) (pts := ptL) (fns := fns) (fgs := fgs) (fws := fws) (tys := tyTab) (main := fun k (x : (List Int)) => ref01_Small.f k x) ok mix tyOk ⟨⟨rfl, fun _ => rfl, fun k x => by kernel_rfl⟩, trivial⟩ (fun k x => by kernel_rfl) (fun k => ⟨⟨ref01_Norm.c k, trivial⟩, trivial, trivial⟩) k
end ref01_Small

namespace ref04_below
def s5 : PSig := ⟨0, [], []⟩
def s23 : PSig := ⟨0, [(27, (.st (.pair (.st (.pair .bool (.list (.int .u32)))) (.list (.int .u32)))), true)], [(1, .ptr 0 []), (5, .val (.int .i64))]⟩
def s0 : PSig := ⟨0, [(27, (.st (.pair (.st (.pair .bool (.list (.int .u32)))) (.list (.int .u32)))), true)], [(1, .ptr 0 []), (5, .val (.int .i64)), (6, .val (.list (.int .u32))), (7, .val .bool)]⟩
def fws : Nat → List (FuncId × FW) := fun _ => []
def ptL : List (Pt (TD [(.int .u64), .bool])) := [⟨5, s5, fun k (x : Unit) => ref04_below.p5 k x⟩, ⟨23, s23, fun k (x : ((Bool × (List Int)) × (List Int)) × Int) => ref04_below.p23 k x.1 x.2⟩, ⟨0, s0, fun k (x : ((Bool × (List Int)) × (List Int)) × Int × (List Int) × Bool) => ref04_below.p0 k x.1 x.2.1 x.2.2.1 x.2.2.2⟩]
def fns : Nat → List (FuncId × FS) := fun k => [(117, ⟨[(.list (.int .u32))], [(.int .i64)], fun (x : (List Int)) => ref01_Bits.f k x⟩), (118, ⟨[(.st (.pair (.st (.pair .bool (.list (.int .u32)))) (.list (.int .u32)))), (.int .i64)], [(.list (.int .u32)), .bool], fun (x : ((Bool × (List Int)) × (List Int)) × Int) => ref04_quotient.f k x.1 x.2⟩), (119, ⟨[(.list (.int .u32))], [(.int .u64), .bool], fun (x : (List Int)) => ref01_Small.f k x⟩)]
def fgs : Nat → List (FuncId × FG) := fun _ => []
def fs (k : Nat) : FS := ⟨[(.st (.pair (.st (.pair .bool (.list (.int .u32)))) (.list (.int .u32))))], [(.int .u64), .bool], fun (x : ((Bool × (List Int)) × (List Int))) => ref04_below.f k x⟩
theorem ok : FnOk Tryz.prog 92 73 Tryz.f92.results.toList (Tryz.f92.body.getD .skip) 1 := ⟨⟨Tryz.f92, by kernel_rfl, by kernel_rfl, by kernel_rfl, rfl, by kernel_rfl⟩, by kernel_rfl, by decide⟩
theorem c (k : Nat) : Contract Tryz.prog 92 (fs k) :=
  fn_sound (ps := [(.st (.pair (.st (.pair .bool (.list (.int .u32)))) (.list (.int .u32))))]) (rs := [(.int .u64), .bool]) (pts := ptL) (fns := fns) (fgs := fgs) (fws := fws) (tys := tyTab) (main := fun k (x : ((Bool × (List Int)) × (List Int))) => ref04_below.f k x) ok mix tyOk ⟨⟨rfl, fun _ => rfl, fun k x => by kernel_rfl⟩, ⟨rfl, fun _ => rfl, fun k x => by kernel_rfl⟩, ⟨rfl, fun _ => rfl, fun k x => by kernel_rfl⟩, trivial⟩ (fun k x => by kernel_rfl) (fun k => ⟨⟨ref01_Bits.c k, ref04_quotient.c k, ref01_Small.c k, trivial⟩, trivial, trivial⟩) k
end ref04_below

namespace ref04_away
def fws : Nat → List (FuncId × FW) := fun _ => []
def ptL : List (Pt (TD [(.int .u64)])) := []
def fns : Nat → List (FuncId × FS) := fun k => [(92, ⟨[(.st (.pair (.st (.pair .bool (.list (.int .u32)))) (.list (.int .u32))))], [(.int .u64), .bool], fun (x : ((Bool × (List Int)) × (List Int))) => ref04_below.f k x⟩)]
def fgs : Nat → List (FuncId × FG) := fun _ => []
def fs (k : Nat) : FS := ⟨[(.st (.pair (.st (.pair .bool (.list (.int .u32)))) (.list (.int .u32))))], [(.int .u64)], fun (x : ((Bool × (List Int)) × (List Int))) => ref04_away.f k x⟩
theorem ok : FnOk Tryz.prog 91 14 Tryz.f91.results.toList (Tryz.f91.body.getD .skip) 1 := ⟨⟨Tryz.f91, by kernel_rfl, by kernel_rfl, by kernel_rfl, rfl, by kernel_rfl⟩, by kernel_rfl, by decide⟩
theorem c (k : Nat) : Contract Tryz.prog 91 (fs k) :=
  fn_sound (ps := [(.st (.pair (.st (.pair .bool (.list (.int .u32)))) (.list (.int .u32))))]) (rs := [(.int .u64)]) (pts := ptL) (fns := fns) (fgs := fgs) (fws := fws) (tys := tyTab) (main := fun k (x : ((Bool × (List Int)) × (List Int))) => ref04_away.f k x) ok mix tyOk trivial (fun k x => by kernel_rfl) (fun k => ⟨⟨ref04_below.c k, trivial⟩, trivial, trivial⟩) k
end ref04_away

namespace ref04_DownBits
def fws : Nat → List (FuncId × FW) := fun _ => []
def ptL : List (Pt (TD [(.int .u64)])) := []
def fns : Nat → List (FuncId × FS) := fun k => [(90, ⟨[(.st (.pair (.st (.pair .bool (.list (.int .u32)))) (.list (.int .u32))))], [(.st (.pair (.st (.pair .bool (.list (.int .u32)))) (.list (.int .u32)))), (.int .u64)], fun (x : ((Bool × (List Int)) × (List Int))) => ref04_amount.f k x⟩), (91, ⟨[(.st (.pair (.st (.pair .bool (.list (.int .u32)))) (.list (.int .u32))))], [(.int .u64)], fun (x : ((Bool × (List Int)) × (List Int))) => ref04_away.f k x⟩), (92, ⟨[(.st (.pair (.st (.pair .bool (.list (.int .u32)))) (.list (.int .u32))))], [(.int .u64), .bool], fun (x : ((Bool × (List Int)) × (List Int))) => ref04_below.f k x⟩)]
def fgs : Nat → List (FuncId × FG) := fun _ => []
def fs (k : Nat) : FS := ⟨[(.st (.pair (.st (.pair .bool (.list (.int .u32)))) (.list (.int .u32))))], [(.int .u64)], fun (x : ((Bool × (List Int)) × (List Int))) => ref04_DownBits.f k x⟩
theorem ok : FnOk Tryz.prog 60 24 Tryz.f60.results.toList (Tryz.f60.body.getD .skip) 1 := ⟨⟨Tryz.f60, by kernel_rfl, by kernel_rfl, by kernel_rfl, rfl, by kernel_rfl⟩, by kernel_rfl, by decide⟩
theorem c (k : Nat) : Contract Tryz.prog 60 (fs k) :=
  fn_sound (ps := [(.st (.pair (.st (.pair .bool (.list (.int .u32)))) (.list (.int .u32))))]) (rs := [(.int .u64)]) (pts := ptL) (fns := fns) (fgs := fgs) (fws := fws) (tys := tyTab) (main := fun k (x : ((Bool × (List Int)) × (List Int))) => ref04_DownBits.f k x) ok mix tyOk trivial (fun k x => by kernel_rfl) (fun k => ⟨⟨ref04_amount.c k, ref04_away.c k, ref04_below.c k, trivial⟩, trivial, trivial⟩) k
end ref04_DownBits

namespace ref04_Down
def fws : Nat → List (FuncId × FW) := fun _ => []
def ptL : List (Pt (TD [.flt])) := []
def fns : Nat → List (FuncId × FS) := fun k => [(60, ⟨[(.st (.pair (.st (.pair .bool (.list (.int .u32)))) (.list (.int .u32))))], [(.int .u64)], fun (x : ((Bool × (List Int)) × (List Int))) => ref04_DownBits.f k x⟩), (59, ⟨[(.int .u64)], [.flt], fun (x : Int) => math_Float64frombits.f k x⟩)]
def fgs : Nat → List (FuncId × FG) := fun _ => []
def fs (k : Nat) : FS := ⟨[(.st (.pair (.st (.pair .bool (.list (.int .u32)))) (.list (.int .u32))))], [.flt], fun (x : ((Bool × (List Int)) × (List Int))) => ref04_Down.f k x⟩
theorem ok : FnOk Tryz.prog 28 6 Tryz.f28.results.toList (Tryz.f28.body.getD .skip) 1 := ⟨⟨Tryz.f28, by kernel_rfl, by kernel_rfl, by kernel_rfl, rfl, by kernel_rfl⟩, by kernel_rfl, by decide⟩
theorem c (k : Nat) : Contract Tryz.prog 28 (fs k) :=
  fn_sound (ps := [(.st (.pair (.st (.pair .bool (.list (.int .u32)))) (.list (.int .u32))))]) (rs := [.flt]) (pts := ptL) (fns := fns) (fgs := fgs) (fws := fws) (tys := tyTab) (main := fun k (x : ((Bool × (List Int)) × (List Int))) => ref04_Down.f k x) ok mix tyOk trivial (fun k x => by kernel_rfl) (fun k => ⟨⟨ref04_DownBits.c k, math_Float64frombits.c k, trivial⟩, trivial, trivial⟩) k
end ref04_Down

namespace ref04_UpBits
def fws : Nat → List (FuncId × FW) := fun _ => []
def ptL : List (Pt (TD [(.int .u64)])) := []
def fns : Nat → List (FuncId × FS) := fun k => [(90, ⟨[(.st (.pair (.st (.pair .bool (.list (.int .u32)))) (.list (.int .u32))))], [(.st (.pair (.st (.pair .bool (.list (.int .u32)))) (.list (.int .u32)))), (.int .u64)], fun (x : ((Bool × (List Int)) × (List Int))) => ref04_amount.f k x⟩), (91, ⟨[(.st (.pair (.st (.pair .bool (.list (.int .u32)))) (.list (.int .u32))))], [(.int .u64)], fun (x : ((Bool × (List Int)) × (List Int))) => ref04_away.f k x⟩), (92, ⟨[(.st (.pair (.st (.pair .bool (.list (.int .u32)))) (.list (.int .u32))))], [(.int .u64), .bool], fun (x : ((Bool × (List Int)) × (List Int))) => ref04_below.f k x⟩)]
def fgs : Nat → List (FuncId × FG) := fun _ => []
def fs (k : Nat) : FS := ⟨[(.st (.pair (.st (.pair .bool (.list (.int .u32)))) (.list (.int .u32))))], [(.int .u64)], fun (x : ((Bool × (List Int)) × (List Int))) => ref04_UpBits.f k x⟩
theorem ok : FnOk Tryz.prog 61 24 Tryz.f61.results.toList (Tryz.f61.body.getD .skip) 1 := ⟨⟨Tryz.f61, by kernel_rfl, by kernel_rfl, by kernel_rfl, rfl, by kernel_rfl⟩, by kernel_rfl, by decide⟩
theorem c (k : Nat) : Contract Tryz.prog 61 (fs k) :=
  fn_sound (ps := [(.st (.pair (.st (.pair .bool (.list (.int .u32)))) (.list (.int .u32))))]) (rs := [(.int .u64)]) (pts := ptL) (fns := fns) (fgs := fgs) (fws := fws) (tys := tyTab) (main := fun k (x : ((Bool × (List Int)) × (List Int))) => ref04_UpBits.f k x) ok mix tyOk trivial (fun k x => by kernel_rfl) (fun k => ⟨⟨ref04_amount.c k, ref04_away.c k, ref04_below.c k, trivial⟩, trivial, trivial⟩) k
end ref04_UpBits

namespace ref04_Up
def fws : Nat → List (FuncId × FW) := fun _ => []
def ptL : List (Pt (TD [.flt])) := []
def fns : Nat → List (FuncId × FS) := fun k => [(61, ⟨[(.st (.pair (.st (.pair .bool (.list (.int .u32)))) (.list (.int .u32))))], [(.int .u64)], fun (x : ((Bool × (List Int)) × (List Int))) => ref04_UpBits.f k x⟩), (59, ⟨[(.int .u64)], [.flt], fun (x : Int) => math_Float64frombits.f k x⟩)]
def fgs : Nat → List (FuncId × FG) := fun _ => []
def fs (k : Nat) : FS := ⟨[(.st (.pair (.st (.pair .bool (.list (.int .u32)))) (.list (.int .u32))))], [.flt], fun (x : ((Bool × (List Int)) × (List Int))) => ref04_Up.f k x⟩
theorem ok : FnOk Tryz.prog 29 6 Tryz.f29.results.toList (Tryz.f29.body.getD .skip) 1 := ⟨⟨Tryz.f29, by kernel_rfl, by kernel_rfl, by kernel_rfl, rfl, by kernel_rfl⟩, by kernel_rfl, by decide⟩
theorem c (k : Nat) : Contract Tryz.prog 29 (fs k) :=
  fn_sound (ps := [(.st (.pair (.st (.pair .bool (.list (.int .u32)))) (.list (.int .u32))))]) (rs := [.flt]) (pts := ptL) (fns := fns) (fgs := fgs) (fws := fws) (tys := tyTab) (main := fun k (x : ((Bool × (List Int)) × (List Int))) => ref04_Up.f k x) ok mix tyOk trivial (fun k x => by kernel_rfl) (fun k => ⟨⟨ref04_UpBits.c k, math_Float64frombits.c k, trivial⟩, trivial, trivial⟩) k
end ref04_Up

namespace ref04_Around
def fws : Nat → List (FuncId × FW) := fun _ => []
def ptL : List (Pt (TD [(.st (.pair .flt .flt))])) := []
def fns : Nat → List (FuncId × FS) := fun k => [(28, ⟨[(.st (.pair (.st (.pair .bool (.list (.int .u32)))) (.list (.int .u32))))], [.flt], fun (x : ((Bool × (List Int)) × (List Int))) => ref04_Down.f k x⟩), (29, ⟨[(.st (.pair (.st (.pair .bool (.list (.int .u32)))) (.list (.int .u32))))], [.flt], fun (x : ((Bool × (List Int)) × (List Int))) => ref04_Up.f k x⟩)]
def fgs : Nat → List (FuncId × FG) := fun _ => []
def fs (k : Nat) : FS := ⟨[(.st (.pair (.st (.pair .bool (.list (.int .u32)))) (.list (.int .u32))))], [(.st (.pair .flt .flt))], fun (x : ((Bool × (List Int)) × (List Int))) => ref04_Around.f k x⟩
theorem ok : FnOk Tryz.prog 8 8 Tryz.f8.results.toList (Tryz.f8.body.getD .skip) 1 := ⟨⟨Tryz.f8, by kernel_rfl, by kernel_rfl, by kernel_rfl, rfl, by kernel_rfl⟩, by kernel_rfl, by decide⟩
theorem c (k : Nat) : Contract Tryz.prog 8 (fs k) :=
  fn_sound (ps := [(.st (.pair (.st (.pair .bool (.list (.int .u32)))) (.list (.int .u32))))]) (rs := [(.st (.pair .flt .flt))]) (pts := ptL) (fns := fns) (fgs := fgs) (fws := fws) (tys := tyTab) (main := fun k (x : ((Bool × (List Int)) × (List Int))) => ref04_Around.f k x) ok mix tyOk trivial (fun k x => by kernel_rfl) (fun k => ⟨⟨ref04_Down.c k, ref04_Up.c k, trivial⟩, trivial, trivial⟩) k
end ref04_Around

namespace law04_same
def fws : Nat → List (FuncId × FW) := fun _ => []
def ptL : List (Pt (TD [.bool])) := []
def fns : Nat → List (FuncId × FS) := fun k => [(36, ⟨[.flt], [(.int .u64)], fun (x : Nat) => math_Float64bits.f k x⟩)]
def fgs : Nat → List (FuncId × FG) := fun _ => []
def fs (k : Nat) : FS := ⟨[.flt, .flt], [.bool], fun (x : Nat × Nat) => law04_same.f k x.1 x.2⟩
theorem ok : FnOk Tryz.prog 27 10 Tryz.f27.results.toList (Tryz.f27.body.getD .skip) 2 := ⟨⟨Tryz.f27, by kernel_rfl, by kernel_rfl, by kernel_rfl, rfl, by kernel_rfl⟩, by kernel_rfl, by decide⟩
theorem c (k : Nat) : Contract Tryz.prog 27 (fs k) :=
  fn_sound (ps := [.flt, .flt]) (rs := [.bool]) (pts := ptL) (fns := fns) (fgs := fgs) (fws := fws) (tys := tyTab) (main := fun k (x : Nat × Nat) => law04_same.f k x.1 x.2) ok mix tyOk trivial (fun k x => by kernel_rfl) (fun k => ⟨⟨math_Float64bits.c k, trivial⟩, trivial, trivial⟩) k
end law04_same

namespace law04_sameSpan
def fws : Nat → List (FuncId × FW) := fun _ => []
def ptL : List (Pt (TD [.bool])) := []
def fns : Nat → List (FuncId × FS) := fun k => [(27, ⟨[.flt, .flt], [.bool], fun (x : Nat × Nat) => law04_same.f k x.1 x.2⟩)]
def fgs : Nat → List (FuncId × FG) := fun _ => []
def fs (k : Nat) : FS := ⟨[(.st (.pair .flt .flt)), (.st (.pair .flt .flt))], [.bool], fun (x : (Nat × Nat) × (Nat × Nat)) => law04_sameSpan.f k x.1 x.2⟩
theorem ok : FnOk Tryz.prog 7 17 Tryz.f7.results.toList (Tryz.f7.body.getD .skip) 2 := ⟨⟨Tryz.f7, by kernel_rfl, by kernel_rfl, by kernel_rfl, rfl, by kernel_rfl⟩, by kernel_rfl, by decide⟩
theorem c (k : Nat) : Contract Tryz.prog 7 (fs k) :=
  fn_sound (ps := [(.st (.pair .flt .flt)), (.st (.pair .flt .flt))]) (rs := [.bool]) (pts := ptL) (fns := fns) (fgs := fgs) (fws := fws) (tys := tyTab) (main := fun k (x : (Nat × Nat) × (Nat × Nat)) => law04_sameSpan.f k x.1 x.2) ok mix tyOk trivial (fun k x => by kernel_rfl) (fun k => ⟨⟨law04_same.c k, trivial⟩, trivial, trivial⟩) k
end law04_sameSpan

namespace math_Abs
def fws : Nat → List (FuncId × FW) := fun _ => []
def ptL : List (Pt (TD [.flt])) := []
def fns : Nat → List (FuncId × FS) := fun k => [(36, ⟨[.flt], [(.int .u64)], fun (x : Nat) => math_Float64bits.f k x⟩), (59, ⟨[(.int .u64)], [.flt], fun (x : Int) => math_Float64frombits.f k x⟩)]
def fgs : Nat → List (FuncId × FG) := fun _ => []
def fs (k : Nat) : FS := ⟨[.flt], [.flt], fun (x : Nat) => math_Abs.f k x⟩
theorem ok : FnOk Tryz.prog 71 7 Tryz.f71.results.toList (Tryz.f71.body.getD .skip) 1 := ⟨⟨Tryz.f71, by kernel_rfl, by kernel_rfl, by kernel_rfl, rfl, by kernel_rfl⟩, by kernel_rfl, by decide⟩
theorem c (k : Nat) : Contract Tryz.prog 71 (fs k) :=
  fn_sound (ps := [.flt]) (rs := [.flt]) (pts := ptL) (fns := fns) (fgs := fgs) (fws := fws) (tys := tyTab) (main := fun k (x : Nat) => math_Abs.f k x) ok mix tyOk trivial (fun k x => by kernel_rfl) (fun k => ⟨⟨math_Float64bits.c k, math_Float64frombits.c k, trivial⟩, trivial, trivial⟩) k
end math_Abs

namespace math_IsInf
def s11 : PSig := ⟨0, [], [(0, .val .flt)]⟩
def fws : Nat → List (FuncId × FW) := fun _ => []
def ptL : List (Pt (TD [.bool])) := [⟨11, s11, fun k (x : Nat) => math_IsInf.p11 k x⟩]
def fns : Nat → List (FuncId × FS) := fun k => [(71, ⟨[.flt], [.flt], fun (x : Nat) => math_Abs.f k x⟩)]
def fgs : Nat → List (FuncId × FG) := fun _ => []
def fs (k : Nat) : FS := ⟨[.flt, (.int .i64)], [.bool], fun (x : Nat × Int) => math_IsInf.f k x.1 x.2⟩
theorem ok : FnOk Tryz.prog 35 15 Tryz.f35.results.toList (Tryz.f35.body.getD .skip) 2 := ⟨⟨Tryz.f35, by kernel_rfl, by kernel_rfl, by kernel_rfl, rfl, by kernel_rfl⟩, by kernel_rfl, by decide⟩
theorem c (k : Nat) : Contract Tryz.prog 35 (fs k) :=
  fn_sound (ps := [.flt, (.int .i64)]) (rs := [.bool]) (pts := ptL) (fns := fns) (fgs := fgs) (fws := fws) (tys := tyTab) (main := fun k (x : Nat × Int) => math_IsInf.f k x.1 x.2) ok mix tyOk ⟨⟨rfl, fun _ => rfl, fun k x => by kernel_rfl⟩, trivial⟩ (fun k x => by kernel_rfl) (fun k => ⟨⟨math_Abs.c k, trivial⟩, trivial, trivial⟩) k
end math_IsInf

namespace approx_Valid
def fws : Nat → List (FuncId × FW) := fun _ => []
def ptL : List (Pt (TD [.bool])) := []
def fns : Nat → List (FuncId × FS) := fun k => [(35, ⟨[.flt, (.int .i64)], [.bool], fun (x : Nat × Int) => math_IsInf.f k x.1 x.2⟩)]
def fgs : Nat → List (FuncId × FG) := fun _ => []
def fs (k : Nat) : FS := ⟨[(.st (.pair .flt .flt))], [.bool], fun (x : (Nat × Nat)) => approx_Valid.f k x⟩
theorem ok : FnOk Tryz.prog 11 20 Tryz.f11.results.toList (Tryz.f11.body.getD .skip) 1 := ⟨⟨Tryz.f11, by kernel_rfl, by kernel_rfl, by kernel_rfl, rfl, by kernel_rfl⟩, by kernel_rfl, by decide⟩
theorem c (k : Nat) : Contract Tryz.prog 11 (fs k) :=
  fn_sound (ps := [(.st (.pair .flt .flt))]) (rs := [.bool]) (pts := ptL) (fns := fns) (fgs := fgs) (fws := fws) (tys := tyTab) (main := fun k (x : (Nat × Nat)) => approx_Valid.f k x) ok mix tyOk trivial (fun k x => by kernel_rfl) (fun k => ⟨⟨math_IsInf.c k, trivial⟩, trivial, trivial⟩) k
end approx_Valid

namespace math_IsNaN
def fws : Nat → List (FuncId × FW) := fun _ => []
def ptL : List (Pt (TD [.bool])) := []
def fns : Nat → List (FuncId × FS) := fun _ => []
def fgs : Nat → List (FuncId × FG) := fun _ => []
def fs (k : Nat) : FS := ⟨[.flt], [.bool], fun (x : Nat) => math_IsNaN.f k x⟩
theorem ok : FnOk Tryz.prog 95 6 Tryz.f95.results.toList (Tryz.f95.body.getD .skip) 1 := ⟨⟨Tryz.f95, by kernel_rfl, by kernel_rfl, by kernel_rfl, rfl, by kernel_rfl⟩, by kernel_rfl, by decide⟩
theorem c (k : Nat) : Contract Tryz.prog 95 (fs k) :=
  fn_sound (ps := [.flt]) (rs := [.bool]) (pts := ptL) (fns := fns) (fgs := fgs) (fws := fws) (tys := tyTab) (main := fun k (x : Nat) => math_IsNaN.f k x) ok mix tyOk trivial (fun k x => by kernel_rfl) (fun _ => ⟨trivial, trivial, trivial⟩) k
end math_IsNaN

namespace nat_Of
def fws : Nat → List (FuncId × FW) := fun _ => []
def ptL : List (Pt (TD [(.list (.int .u32))])) := []
def fns : Nat → List (FuncId × FS) := fun k => [(122, ⟨[(.list (.int .u32))], [(.list (.int .u32))], fun (x : (List Int)) => nat_own.f k x⟩)]
def fgs : Nat → List (FuncId × FG) := fun _ => []
def fs (k : Nat) : FS := ⟨[(.int .u64)], [(.list (.int .u32))], fun (x : Int) => nat_Of.f k x⟩
theorem ok : FnOk Tryz.prog 96 10 Tryz.f96.results.toList (Tryz.f96.body.getD .skip) 1 := ⟨⟨Tryz.f96, by kernel_rfl, by kernel_rfl, by kernel_rfl, rfl, by kernel_rfl⟩, by kernel_rfl, by decide⟩
theorem c (k : Nat) : Contract Tryz.prog 96 (fs k) :=
  fn_sound (ps := [(.int .u64)]) (rs := [(.list (.int .u32))]) (pts := ptL) (fns := fns) (fgs := fgs) (fws := fws) (tys := tyTab) (main := fun k (x : Int) => nat_Of.f k x) ok mix tyOk trivial (fun k x => by kernel_rfl) (fun k => ⟨⟨nat_own.c k, trivial⟩, trivial, trivial⟩) k
end nat_Of

namespace whole_Of
def fws : Nat → List (FuncId × FW) := fun _ => []
def ptL : List (Pt (TD [(.st (.pair .bool (.list (.int .u32))))])) := []
def fns : Nat → List (FuncId × FS) := fun k => [(96, ⟨[(.int .u64)], [(.list (.int .u32))], fun (x : Int) => nat_Of.f k x⟩), (121, ⟨[(.list (.int .u32)), (.list (.int .i64))], [(.st (.pair .bool (.list (.int .u32))))], fun (x : (List Int) × (List Int)) => whole_signed.f k x.1 x.2⟩)]
def fgs : Nat → List (FuncId × FG) := fun _ => []
def fs (k : Nat) : FS := ⟨[(.int .i64)], [(.st (.pair .bool (.list (.int .u32))))], fun (x : Int) => whole_Of.f k x⟩
theorem ok : FnOk Tryz.prog 98 15 Tryz.f98.results.toList (Tryz.f98.body.getD .skip) 1 := ⟨⟨Tryz.f98, by kernel_rfl, by kernel_rfl, by kernel_rfl, rfl, by kernel_rfl⟩, by kernel_rfl, by decide⟩
theorem c (k : Nat) : Contract Tryz.prog 98 (fs k) :=
  fn_sound (ps := [(.int .i64)]) (rs := [(.st (.pair .bool (.list (.int .u32))))]) (pts := ptL) (fns := fns) (fgs := fgs) (fws := fws) (tys := tyTab) (main := fun k (x : Int) => whole_Of.f k x) ok mix tyOk trivial (fun k x => by kernel_rfl) (fun k => ⟨⟨nat_Of.c k, whole_signed.c k, trivial⟩, trivial, trivial⟩) k
end whole_Of

namespace ratio_Of
def s11 : PSig := ⟨0, [(25, (.st (.pair .bool (.list (.int .u32)))), true), (25, (.st (.pair .bool (.list (.int .u32)))), true), (27, (.st (.pair (.st (.pair .bool (.list (.int .u32)))) (.list (.int .u32)))), true)], [(2, .ptr 0 []), (3, .ptr 1 []), (4, .ptr 2 [])]⟩
def fws : Nat → List (FuncId × FW) := fun _ => []
def ptL : List (Pt (TD [(.st (.pair (.st (.pair .bool (.list (.int .u32)))) (.list (.int .u32)))), (.int .i64)])) := [⟨11, s11, fun k (x : (Bool × (List Int)) × (Bool × (List Int)) × ((Bool × (List Int)) × (List Int))) => ratio_Of.p11 k x.1 x.2.1 x.2.2⟩]
def fns : Nat → List (FuncId × FS) := fun k => [(88, ⟨[(.st (.pair .bool (.list (.int .u32))))], [(.int .i64)], fun (x : (Bool × (List Int))) => whole_Sign.f k x⟩), (108, ⟨[(.st (.pair .bool (.list (.int .u32))))], [(.st (.pair .bool (.list (.int .u32))))], fun (x : (Bool × (List Int))) => whole_Neg.f k x⟩), (106, ⟨[(.st (.pair .bool (.list (.int .u32)))), (.list (.int .u32))], [(.st (.pair (.st (.pair .bool (.list (.int .u32)))) (.list (.int .u32))))], fun (x : (Bool × (List Int)) × (List Int)) => ratio_made.f k x.1 x.2⟩)]
def fgs : Nat → List (FuncId × FG) := fun _ => []
def fs (k : Nat) : FS := ⟨[(.st (.pair .bool (.list (.int .u32)))), (.st (.pair .bool (.list (.int .u32))))], [(.st (.pair (.st (.pair .bool (.list (.int .u32)))) (.list (.int .u32)))), (.int .i64)], fun (x : (Bool × (List Int)) × (Bool × (List Int))) => ratio_Of.f k x.1 x.2⟩
theorem ok : FnOk Tryz.prog 97 19 Tryz.f97.results.toList (Tryz.f97.body.getD .skip) 2 := ⟨⟨Tryz.f97, by kernel_rfl, by kernel_rfl, by kernel_rfl, rfl, by kernel_rfl⟩, by kernel_rfl, by decide⟩
theorem c (k : Nat) : Contract Tryz.prog 97 (fs k) :=
  fn_sound (ps := [(.st (.pair .bool (.list (.int .u32)))), (.st (.pair .bool (.list (.int .u32))))]) (rs := [(.st (.pair (.st (.pair .bool (.list (.int .u32)))) (.list (.int .u32)))), (.int .i64)]) (pts := ptL) (fns := fns) (fgs := fgs) (fws := fws) (tys := tyTab) (main := fun k (x : (Bool × (List Int)) × (Bool × (List Int))) => ratio_Of.f k x.1 x.2) ok mix tyOk ⟨⟨rfl, fun _ => rfl, fun k x => by kernel_rfl⟩, trivial⟩ (fun k x => by kernel_rfl) (fun k => ⟨⟨whole_Sign.c k, whole_Neg.c k, ratio_made.c k, trivial⟩, trivial, trivial⟩) k
end ratio_Of

namespace ratio_Inv
def fws : Nat → List (FuncId × FW) := fun _ => []
def ptL : List (Pt (TD [(.st (.pair (.st (.pair .bool (.list (.int .u32)))) (.list (.int .u32)))), (.int .i64)])) := []
def fns : Nat → List (FuncId × FS) := fun k => [(89, ⟨[(.st (.pair (.st (.pair .bool (.list (.int .u32)))) (.list (.int .u32))))], [(.st (.pair (.st (.pair .bool (.list (.int .u32)))) (.list (.int .u32))))], fun (x : ((Bool × (List Int)) × (List Int))) => ratio_Norm.f k x⟩), (97, ⟨[(.st (.pair .bool (.list (.int .u32)))), (.st (.pair .bool (.list (.int .u32))))], [(.st (.pair (.st (.pair .bool (.list (.int .u32)))) (.list (.int .u32)))), (.int .i64)], fun (x : (Bool × (List Int)) × (Bool × (List Int))) => ratio_Of.f k x.1 x.2⟩)]
def fgs : Nat → List (FuncId × FG) := fun _ => []
def fs (k : Nat) : FS := ⟨[(.st (.pair (.st (.pair .bool (.list (.int .u32)))) (.list (.int .u32))))], [(.st (.pair (.st (.pair .bool (.list (.int .u32)))) (.list (.int .u32)))), (.int .i64)], fun (x : ((Bool × (List Int)) × (List Int))) => ratio_Inv.f k x⟩
theorem ok : FnOk Tryz.prog 109 14 Tryz.f109.results.toList (Tryz.f109.body.getD .skip) 1 := ⟨⟨Tryz.f109, by kernel_rfl, by kernel_rfl, by kernel_rfl, rfl, by kernel_rfl⟩, by kernel_rfl, by decide⟩
theorem c (k : Nat) : Contract Tryz.prog 109 (fs k) :=
  fn_sound (ps := [(.st (.pair (.st (.pair .bool (.list (.int .u32)))) (.list (.int .u32))))]) (rs := [(.st (.pair (.st (.pair .bool (.list (.int .u32)))) (.list (.int .u32)))), (.int .i64)]) (pts := ptL) (fns := fns) (fgs := fgs) (fws := fws) (tys := tyTab) (main := fun k (x : ((Bool × (List Int)) × (List Int))) => ratio_Inv.f k x) ok mix tyOk trivial (fun k x => by kernel_rfl) (fun k => ⟨⟨ratio_Norm.c k, ratio_Of.c k, trivial⟩, trivial, trivial⟩) k
end ratio_Inv

namespace approx_two
def s11 : PSig := ⟨0, [(27, (.st (.pair (.st (.pair .bool (.list (.int .u32)))) (.list (.int .u32)))), true), (27, (.st (.pair (.st (.pair .bool (.list (.int .u32)))) (.list (.int .u32)))), true)], [(2, .ptr 0 []), (5, .ptr 1 [])]⟩
def fws : Nat → List (FuncId × FW) := fun _ => []
def ptL : List (Pt (TD [(.st (.pair (.st (.pair .bool (.list (.int .u32)))) (.list (.int .u32))))])) := [⟨11, s11, fun k (x : ((Bool × (List Int)) × (List Int)) × ((Bool × (List Int)) × (List Int))) => approx_two.p11 k x.1 x.2⟩]
def fns : Nat → List (FuncId × FS) := fun k => [(96, ⟨[(.int .u64)], [(.list (.int .u32))], fun (x : Int) => nat_Of.f k x⟩), (123, ⟨[(.list (.int .u32)), (.int .i64)], [(.list (.int .u32)), (.int .i64)], fun (x : (List Int) × Int) => nat_Shift.f k x.1 x.2⟩), (98, ⟨[(.int .i64)], [(.st (.pair .bool (.list (.int .u32))))], fun (x : Int) => whole_Of.f k x⟩), (97, ⟨[(.st (.pair .bool (.list (.int .u32)))), (.st (.pair .bool (.list (.int .u32))))], [(.st (.pair (.st (.pair .bool (.list (.int .u32)))) (.list (.int .u32)))), (.int .i64)], fun (x : (Bool × (List Int)) × (Bool × (List Int))) => ratio_Of.f k x.1 x.2⟩), (109, ⟨[(.st (.pair (.st (.pair .bool (.list (.int .u32)))) (.list (.int .u32))))], [(.st (.pair (.st (.pair .bool (.list (.int .u32)))) (.list (.int .u32)))), (.int .i64)], fun (x : ((Bool × (List Int)) × (List Int))) => ratio_Inv.f k x⟩)]
def fgs : Nat → List (FuncId × FG) := fun _ => []
def fs (k : Nat) : FS := ⟨[(.int .i64)], [(.st (.pair (.st (.pair .bool (.list (.int .u32)))) (.list (.int .u32))))], fun (x : Int) => approx_two.f k x⟩
theorem ok : FnOk Tryz.prog 99 31 Tryz.f99.results.toList (Tryz.f99.body.getD .skip) 1 := ⟨⟨Tryz.f99, by kernel_rfl, by kernel_rfl, by kernel_rfl, rfl, by kernel_rfl⟩, by kernel_rfl, by decide⟩
theorem c (k : Nat) : Contract Tryz.prog 99 (fs k) :=
  fn_sound (ps := [(.int .i64)]) (rs := [(.st (.pair (.st (.pair .bool (.list (.int .u32)))) (.list (.int .u32))))]) (pts := ptL) (fns := fns) (fgs := fgs) (fws := fws) (tys := tyTab) (main := fun k (x : Int) => approx_two.f k x) ok mix tyOk ⟨⟨rfl, fun _ => rfl, fun k x => by kernel_rfl⟩, trivial⟩ (fun k x => by kernel_rfl) (fun k => ⟨⟨nat_Of.c k, nat_Shift.c k, whole_Of.c k, ratio_Of.c k, ratio_Inv.c k, trivial⟩, trivial, trivial⟩) k
end approx_two

namespace nat_Mul
def s0 : PSig := ⟨0, [(80, (.int .u32), false)], [(0, .val (.list (.int .u32))), (1, .val (.list (.int .u32))), (5, .own 0), (21, .val (.int .i64)), (22, .val (.int .i64))]⟩
def s4 : PSig := ⟨0, [(80, (.int .u32), false)], [(0, .val (.list (.int .u32))), (1, .val (.list (.int .u32))), (5, .own 0), (6, .val (.int .i64)), (7, .val (.int .u64)), (21, .val (.int .i64)), (22, .val (.int .i64)), (26, .val (.int .i64)), (27, .val (.int .i64))]⟩
def fws : Nat → List (FuncId × FW) := fun _ => []
def ptL : List (Pt (TD [(.list (.int .u32))])) := [⟨0, s0, fun k (x : (List Int) × (List Int) × (List Int) × Int × Int) => nat_Mul.p0 k x.1 x.2.1 x.2.2.1 x.2.2.2.1 x.2.2.2.2⟩, ⟨4, s4, fun k (x : (List Int) × (List Int) × (List Int) × Int × Int × Int × Int × Int × Int) => nat_Mul.p4 k x.1 x.2.1 x.2.2.1 x.2.2.2.1 x.2.2.2.2.1 x.2.2.2.2.2.1 x.2.2.2.2.2.2.1 x.2.2.2.2.2.2.2.1 x.2.2.2.2.2.2.2.2⟩]
def fns : Nat → List (FuncId × FS) := fun k => [(132, ⟨[(.list (.int .u32))], [(.list (.int .u32))], fun (x : (List Int)) => nat_trim.f k x⟩), (122, ⟨[(.list (.int .u32))], [(.list (.int .u32))], fun (x : (List Int)) => nat_own.f k x⟩)]
def fgs : Nat → List (FuncId × FG) := fun _ => []
def fs (k : Nat) : FS := ⟨[(.list (.int .u32)), (.list (.int .u32))], [(.list (.int .u32))], fun (x : (List Int) × (List Int)) => nat_Mul.f k x.1 x.2⟩
theorem ok : FnOk Tryz.prog 107 72 Tryz.f107.results.toList (Tryz.f107.body.getD .skip) 2 := ⟨⟨Tryz.f107, by kernel_rfl, by kernel_rfl, by kernel_rfl, rfl, by kernel_rfl⟩, by kernel_rfl, by decide⟩
theorem c (k : Nat) : Contract Tryz.prog 107 (fs k) :=
  fn_sound (ps := [(.list (.int .u32)), (.list (.int .u32))]) (rs := [(.list (.int .u32))]) (pts := ptL) (fns := fns) (fgs := fgs) (fws := fws) (tys := tyTab) (main := fun k (x : (List Int) × (List Int)) => nat_Mul.f k x.1 x.2) ok mix tyOk ⟨⟨rfl, fun _ => rfl, fun k x => by kernel_rfl⟩, ⟨rfl, fun _ => rfl, fun k x => by kernel_rfl⟩, trivial⟩ (fun k x => by kernel_rfl) (fun k => ⟨⟨nat_trim.c k, nat_own.c k, trivial⟩, trivial, trivial⟩) k
end nat_Mul

namespace whole_Mul
def fws : Nat → List (FuncId × FW) := fun _ => []
def ptL : List (Pt (TD [(.st (.pair .bool (.list (.int .u32))))])) := []
def fns : Nat → List (FuncId × FS) := fun k => [(107, ⟨[(.list (.int .u32)), (.list (.int .u32))], [(.list (.int .u32))], fun (x : (List Int) × (List Int)) => nat_Mul.f k x.1 x.2⟩), (88, ⟨[(.st (.pair .bool (.list (.int .u32))))], [(.int .i64)], fun (x : (Bool × (List Int))) => whole_Sign.f k x⟩), (121, ⟨[(.list (.int .u32)), (.list (.int .i64))], [(.st (.pair .bool (.list (.int .u32))))], fun (x : (List Int) × (List Int)) => whole_signed.f k x.1 x.2⟩)]
def fgs : Nat → List (FuncId × FG) := fun _ => []
def fs (k : Nat) : FS := ⟨[(.st (.pair .bool (.list (.int .u32)))), (.st (.pair .bool (.list (.int .u32))))], [(.st (.pair .bool (.list (.int .u32))))], fun (x : (Bool × (List Int)) × (Bool × (List Int))) => whole_Mul.f k x.1 x.2⟩
theorem ok : FnOk Tryz.prog 94 16 Tryz.f94.results.toList (Tryz.f94.body.getD .skip) 2 := ⟨⟨Tryz.f94, by kernel_rfl, by kernel_rfl, by kernel_rfl, rfl, by kernel_rfl⟩, by kernel_rfl, by decide⟩
theorem c (k : Nat) : Contract Tryz.prog 94 (fs k) :=
  fn_sound (ps := [(.st (.pair .bool (.list (.int .u32)))), (.st (.pair .bool (.list (.int .u32))))]) (rs := [(.st (.pair .bool (.list (.int .u32))))]) (pts := ptL) (fns := fns) (fgs := fgs) (fws := fws) (tys := tyTab) (main := fun k (x : (Bool × (List Int)) × (Bool × (List Int))) => whole_Mul.f k x.1 x.2) ok mix tyOk trivial (fun k x => by kernel_rfl) (fun k => ⟨⟨nat_Mul.c k, whole_Sign.c k, whole_signed.c k, trivial⟩, trivial, trivial⟩) k
end whole_Mul

namespace ratio_Mul
def fws : Nat → List (FuncId × FW) := fun _ => []
def ptL : List (Pt (TD [(.st (.pair (.st (.pair .bool (.list (.int .u32)))) (.list (.int .u32))))])) := []
def fns : Nat → List (FuncId × FS) := fun k => [(89, ⟨[(.st (.pair (.st (.pair .bool (.list (.int .u32)))) (.list (.int .u32))))], [(.st (.pair (.st (.pair .bool (.list (.int .u32)))) (.list (.int .u32))))], fun (x : ((Bool × (List Int)) × (List Int))) => ratio_Norm.f k x⟩), (94, ⟨[(.st (.pair .bool (.list (.int .u32)))), (.st (.pair .bool (.list (.int .u32))))], [(.st (.pair .bool (.list (.int .u32))))], fun (x : (Bool × (List Int)) × (Bool × (List Int))) => whole_Mul.f k x.1 x.2⟩), (107, ⟨[(.list (.int .u32)), (.list (.int .u32))], [(.list (.int .u32))], fun (x : (List Int) × (List Int)) => nat_Mul.f k x.1 x.2⟩), (106, ⟨[(.st (.pair .bool (.list (.int .u32)))), (.list (.int .u32))], [(.st (.pair (.st (.pair .bool (.list (.int .u32)))) (.list (.int .u32))))], fun (x : (Bool × (List Int)) × (List Int)) => ratio_made.f k x.1 x.2⟩)]
def fgs : Nat → List (FuncId × FG) := fun _ => []
def fs (k : Nat) : FS := ⟨[(.st (.pair (.st (.pair .bool (.list (.int .u32)))) (.list (.int .u32)))), (.st (.pair (.st (.pair .bool (.list (.int .u32)))) (.list (.int .u32))))], [(.st (.pair (.st (.pair .bool (.list (.int .u32)))) (.list (.int .u32))))], fun (x : ((Bool × (List Int)) × (List Int)) × ((Bool × (List Int)) × (List Int))) => ratio_Mul.f k x.1 x.2⟩
theorem ok : FnOk Tryz.prog 75 20 Tryz.f75.results.toList (Tryz.f75.body.getD .skip) 2 := ⟨⟨Tryz.f75, by kernel_rfl, by kernel_rfl, by kernel_rfl, rfl, by kernel_rfl⟩, by kernel_rfl, by decide⟩
theorem c (k : Nat) : Contract Tryz.prog 75 (fs k) :=
  fn_sound (ps := [(.st (.pair (.st (.pair .bool (.list (.int .u32)))) (.list (.int .u32)))), (.st (.pair (.st (.pair .bool (.list (.int .u32)))) (.list (.int .u32))))]) (rs := [(.st (.pair (.st (.pair .bool (.list (.int .u32)))) (.list (.int .u32))))]) (pts := ptL) (fns := fns) (fgs := fgs) (fws := fws) (tys := tyTab) (main := fun k (x : ((Bool × (List Int)) × (List Int)) × ((Bool × (List Int)) × (List Int))) => ratio_Mul.f k x.1 x.2) ok mix tyOk trivial (fun k x => by kernel_rfl) (fun k => ⟨⟨ratio_Norm.c k, whole_Mul.c k, nat_Mul.c k, ratio_made.c k, trivial⟩, trivial, trivial⟩) k
end ratio_Mul

namespace approx_Exact
def s21 : PSig := ⟨0, [(27, (.st (.pair (.st (.pair .bool (.list (.int .u32)))) (.list (.int .u32)))), true)], [(0, .val .flt), (2, .ptr 0 []), (5, .val (.int .u64)), (6, .val (.int .i64))]⟩
def fws : Nat → List (FuncId × FW) := fun _ => []
def ptL : List (Pt (TD [(.st (.pair (.st (.pair .bool (.list (.int .u32)))) (.list (.int .u32)))), (.int .i64)])) := [⟨21, s21, fun k (x : ((Bool × (List Int)) × (List Int)) × Nat × Int × Int) => approx_Exact.p21 k x.1 x.2.1 x.2.2.1 x.2.2.2⟩]
def fns : Nat → List (FuncId × FS) := fun k => [(95, ⟨[.flt], [.bool], fun (x : Nat) => math_IsNaN.f k x⟩), (35, ⟨[.flt, (.int .i64)], [.bool], fun (x : Nat × Int) => math_IsInf.f k x.1 x.2⟩), (36, ⟨[.flt], [(.int .u64)], fun (x : Nat) => math_Float64bits.f k x⟩), (96, ⟨[(.int .u64)], [(.list (.int .u32))], fun (x : Int) => nat_Of.f k x⟩), (98, ⟨[(.int .i64)], [(.st (.pair .bool (.list (.int .u32))))], fun (x : Int) => whole_Of.f k x⟩), (97, ⟨[(.st (.pair .bool (.list (.int .u32)))), (.st (.pair .bool (.list (.int .u32))))], [(.st (.pair (.st (.pair .bool (.list (.int .u32)))) (.list (.int .u32)))), (.int .i64)], fun (x : (Bool × (List Int)) × (Bool × (List Int))) => ratio_Of.f k x.1 x.2⟩), (99, ⟨[(.int .i64)], [(.st (.pair (.st (.pair .bool (.list (.int .u32)))) (.list (.int .u32))))], fun (x : Int) => approx_two.f k x⟩), (75, ⟨[(.st (.pair (.st (.pair .bool (.list (.int .u32)))) (.list (.int .u32)))), (.st (.pair (.st (.pair .bool (.list (.int .u32)))) (.list (.int .u32))))], [(.st (.pair (.st (.pair .bool (.list (.int .u32)))) (.list (.int .u32))))], fun (x : ((Bool × (List Int)) × (List Int)) × ((Bool × (List Int)) × (List Int))) => ratio_Mul.f k x.1 x.2⟩)]
def fgs : Nat → List (FuncId × FG) := fun _ => []
def fs (k : Nat) : FS := ⟨[.flt], [(.st (.pair (.st (.pair .bool (.list (.int .u32)))) (.list (.int .u32)))), (.int .i64)], fun (x : Nat) => approx_Exact.f k x⟩
theorem ok : FnOk Tryz.prog 63 48 Tryz.f63.results.toList (Tryz.f63.body.getD .skip) 1 := ⟨⟨Tryz.f63, by kernel_rfl, by kernel_rfl, by kernel_rfl, rfl, by kernel_rfl⟩, by kernel_rfl, by decide⟩
theorem c (k : Nat) : Contract Tryz.prog 63 (fs k) :=
  fn_sound (ps := [.flt]) (rs := [(.st (.pair (.st (.pair .bool (.list (.int .u32)))) (.list (.int .u32)))), (.int .i64)]) (pts := ptL) (fns := fns) (fgs := fgs) (fws := fws) (tys := tyTab) (main := fun k (x : Nat) => approx_Exact.f k x) ok mix tyOk ⟨⟨rfl, fun _ => rfl, fun k x => by kernel_rfl⟩, trivial⟩ (fun k x => by kernel_rfl) (fun k => ⟨⟨math_IsNaN.c k, math_IsInf.c k, math_Float64bits.c k, nat_Of.c k, whole_Of.c k, ratio_Of.c k, approx_two.c k, ratio_Mul.c k, trivial⟩, trivial, trivial⟩) k
end approx_Exact

namespace approx_endOf
def fws : Nat → List (FuncId × FW) := fun _ => []
def ptL : List (Pt (TD [(.st (.pair (.int .i64) (.st (.pair (.st (.pair .bool (.list (.int .u32)))) (.list (.int .u32))))))])) := []
def fns : Nat → List (FuncId × FS) := fun k => [(35, ⟨[.flt, (.int .i64)], [.bool], fun (x : Nat × Int) => math_IsInf.f k x.1 x.2⟩), (63, ⟨[.flt], [(.st (.pair (.st (.pair .bool (.list (.int .u32)))) (.list (.int .u32)))), (.int .i64)], fun (x : Nat) => approx_Exact.f k x⟩)]
def fgs : Nat → List (FuncId × FG) := fun _ => []
def fs (k : Nat) : FS := ⟨[.flt], [(.st (.pair (.int .i64) (.st (.pair (.st (.pair .bool (.list (.int .u32)))) (.list (.int .u32))))))], fun (x : Nat) => approx_endOf.f k x⟩
theorem ok : FnOk Tryz.prog 31 20 Tryz.f31.results.toList (Tryz.f31.body.getD .skip) 1 := ⟨⟨Tryz.f31, by kernel_rfl, by kernel_rfl, by kernel_rfl, rfl, by kernel_rfl⟩, by kernel_rfl, by decide⟩
theorem c (k : Nat) : Contract Tryz.prog 31 (fs k) :=
  fn_sound (ps := [.flt]) (rs := [(.st (.pair (.int .i64) (.st (.pair (.st (.pair .bool (.list (.int .u32)))) (.list (.int .u32))))))]) (pts := ptL) (fns := fns) (fgs := fgs) (fws := fws) (tys := tyTab) (main := fun k (x : Nat) => approx_endOf.f k x) ok mix tyOk trivial (fun k x => by kernel_rfl) (fun k => ⟨⟨math_IsInf.c k, approx_Exact.c k, trivial⟩, trivial, trivial⟩) k
end approx_endOf

namespace nat_Sub
def s0 : PSig := ⟨0, [(80, (.int .u32), false)], [(0, .val (.list (.int .u32))), (1, .val (.list (.int .u32))), (6, .own 0), (7, .val (.int .u32)), (20, .val (.int .i64)), (21, .val (.int .i64))]⟩
def s25 : PSig := ⟨0, [(80, (.int .u32), false)], [(0, .val (.list (.int .u32))), (1, .val (.list (.int .u32))), (6, .own 0), (7, .val (.int .u32)), (8, .val (.int .i64)), (9, .val (.int .u32)), (20, .val (.int .i64)), (21, .val (.int .i64))]⟩
def fws : Nat → List (FuncId × FW) := fun _ => []
def ptL : List (Pt (TD [(.list (.int .u32)), (.int .i64)])) := [⟨0, s0, fun k (x : (List Int) × (List Int) × (List Int) × Int × Int × Int) => nat_Sub.p0 k x.1 x.2.1 x.2.2.1 x.2.2.2.1 x.2.2.2.2.1 x.2.2.2.2.2⟩, ⟨25, s25, fun k (x : (List Int) × (List Int) × (List Int) × Int × Int × Int × Int × Int) => nat_Sub.p25 k x.1 x.2.1 x.2.2.1 x.2.2.2.1 x.2.2.2.2.1 x.2.2.2.2.2.1 x.2.2.2.2.2.2.1 x.2.2.2.2.2.2.2⟩]
def fns : Nat → List (FuncId × FS) := fun k => [(114, ⟨[(.list (.int .u32)), (.list (.int .u32))], [(.int .i64)], fun (x : (List Int) × (List Int)) => nat_Cmp.f k x.1 x.2⟩), (132, ⟨[(.list (.int .u32))], [(.list (.int .u32))], fun (x : (List Int)) => nat_trim.f k x⟩), (137, ⟨[(.int .u32), (.int .u32), (.int .u32)], [(.int .u32), (.int .u32)], fun (x : Int × Int × Int) => bits_Sub32.f k x.1 x.2.1 x.2.2⟩), (122, ⟨[(.list (.int .u32))], [(.list (.int .u32))], fun (x : (List Int)) => nat_own.f k x⟩)]
def fgs : Nat → List (FuncId × FG) := fun _ => []
def fs (k : Nat) : FS := ⟨[(.list (.int .u32)), (.list (.int .u32))], [(.list (.int .u32)), (.int .i64)], fun (x : (List Int) × (List Int)) => nat_Sub.f k x.1 x.2⟩
theorem ok : FnOk Tryz.prog 128 48 Tryz.f128.results.toList (Tryz.f128.body.getD .skip) 2 := ⟨⟨Tryz.f128, by kernel_rfl, by kernel_rfl, by kernel_rfl, rfl, by kernel_rfl⟩, by kernel_rfl, by decide⟩
theorem c (k : Nat) : Contract Tryz.prog 128 (fs k) :=
  fn_sound (ps := [(.list (.int .u32)), (.list (.int .u32))]) (rs := [(.list (.int .u32)), (.int .i64)]) (pts := ptL) (fns := fns) (fgs := fgs) (fws := fws) (tys := tyTab) (main := fun k (x : (List Int) × (List Int)) => nat_Sub.f k x.1 x.2) ok mix tyOk ⟨⟨rfl, fun _ => rfl, fun k x => by kernel_rfl⟩, ⟨rfl, fun _ => rfl, fun k x => by kernel_rfl⟩, trivial⟩ (fun k x => by kernel_rfl) (fun k => ⟨⟨nat_Cmp.c k, nat_trim.c k, bits_Sub32.c k, nat_own.c k, trivial⟩, trivial, trivial⟩) k
end nat_Sub

namespace whole_Add
def fws : Nat → List (FuncId × FW) := fun _ => []
def ptL : List (Pt (TD [(.st (.pair .bool (.list (.int .u32))))])) := []
def fns : Nat → List (FuncId × FS) := fun k => [(88, ⟨[(.st (.pair .bool (.list (.int .u32))))], [(.int .i64)], fun (x : (Bool × (List Int))) => whole_Sign.f k x⟩), (115, ⟨[(.list (.int .u32)), (.list (.int .u32))], [(.list (.int .u32))], fun (x : (List Int) × (List Int)) => nat_Add.f k x.1 x.2⟩), (121, ⟨[(.list (.int .u32)), (.list (.int .i64))], [(.st (.pair .bool (.list (.int .u32))))], fun (x : (List Int) × (List Int)) => whole_signed.f k x.1 x.2⟩), (114, ⟨[(.list (.int .u32)), (.list (.int .u32))], [(.int .i64)], fun (x : (List Int) × (List Int)) => nat_Cmp.f k x.1 x.2⟩), (128, ⟨[(.list (.int .u32)), (.list (.int .u32))], [(.list (.int .u32)), (.int .i64)], fun (x : (List Int) × (List Int)) => nat_Sub.f k x.1 x.2⟩)]
def fgs : Nat → List (FuncId × FG) := fun _ => []
def fs (k : Nat) : FS := ⟨[(.st (.pair .bool (.list (.int .u32)))), (.st (.pair .bool (.list (.int .u32))))], [(.st (.pair .bool (.list (.int .u32))))], fun (x : (Bool × (List Int)) × (Bool × (List Int))) => whole_Add.f k x.1 x.2⟩
theorem ok : FnOk Tryz.prog 105 60 Tryz.f105.results.toList (Tryz.f105.body.getD .skip) 2 := ⟨⟨Tryz.f105, by kernel_rfl, by kernel_rfl, by kernel_rfl, rfl, by kernel_rfl⟩, by kernel_rfl, by decide⟩
theorem c (k : Nat) : Contract Tryz.prog 105 (fs k) :=
  fn_sound (ps := [(.st (.pair .bool (.list (.int .u32)))), (.st (.pair .bool (.list (.int .u32))))]) (rs := [(.st (.pair .bool (.list (.int .u32))))]) (pts := ptL) (fns := fns) (fgs := fgs) (fws := fws) (tys := tyTab) (main := fun k (x : (Bool × (List Int)) × (Bool × (List Int))) => whole_Add.f k x.1 x.2) ok mix tyOk trivial (fun k x => by kernel_rfl) (fun k => ⟨⟨whole_Sign.c k, nat_Add.c k, whole_signed.c k, nat_Cmp.c k, nat_Sub.c k, trivial⟩, trivial, trivial⟩) k
end whole_Add

namespace whole_Sub
def fws : Nat → List (FuncId × FW) := fun _ => []
def ptL : List (Pt (TD [(.st (.pair .bool (.list (.int .u32))))])) := []
def fns : Nat → List (FuncId × FS) := fun k => [(108, ⟨[(.st (.pair .bool (.list (.int .u32))))], [(.st (.pair .bool (.list (.int .u32))))], fun (x : (Bool × (List Int))) => whole_Neg.f k x⟩), (105, ⟨[(.st (.pair .bool (.list (.int .u32)))), (.st (.pair .bool (.list (.int .u32))))], [(.st (.pair .bool (.list (.int .u32))))], fun (x : (Bool × (List Int)) × (Bool × (List Int))) => whole_Add.f k x.1 x.2⟩)]
def fgs : Nat → List (FuncId × FG) := fun _ => []
def fs (k : Nat) : FS := ⟨[(.st (.pair .bool (.list (.int .u32)))), (.st (.pair .bool (.list (.int .u32))))], [(.st (.pair .bool (.list (.int .u32))))], fun (x : (Bool × (List Int)) × (Bool × (List Int))) => whole_Sub.f k x.1 x.2⟩
theorem ok : FnOk Tryz.prog 120 9 Tryz.f120.results.toList (Tryz.f120.body.getD .skip) 2 := ⟨⟨Tryz.f120, by kernel_rfl, by kernel_rfl, by kernel_rfl, rfl, by kernel_rfl⟩, by kernel_rfl, by decide⟩
theorem c (k : Nat) : Contract Tryz.prog 120 (fs k) :=
  fn_sound (ps := [(.st (.pair .bool (.list (.int .u32)))), (.st (.pair .bool (.list (.int .u32))))]) (rs := [(.st (.pair .bool (.list (.int .u32))))]) (pts := ptL) (fns := fns) (fgs := fgs) (fws := fws) (tys := tyTab) (main := fun k (x : (Bool × (List Int)) × (Bool × (List Int))) => whole_Sub.f k x.1 x.2) ok mix tyOk trivial (fun k x => by kernel_rfl) (fun k => ⟨⟨whole_Neg.c k, whole_Add.c k, trivial⟩, trivial, trivial⟩) k
end whole_Sub

namespace whole_Cmp
def fws : Nat → List (FuncId × FW) := fun _ => []
def ptL : List (Pt (TD [(.int .i64)])) := []
def fns : Nat → List (FuncId × FS) := fun k => [(120, ⟨[(.st (.pair .bool (.list (.int .u32)))), (.st (.pair .bool (.list (.int .u32))))], [(.st (.pair .bool (.list (.int .u32))))], fun (x : (Bool × (List Int)) × (Bool × (List Int))) => whole_Sub.f k x.1 x.2⟩), (88, ⟨[(.st (.pair .bool (.list (.int .u32))))], [(.int .i64)], fun (x : (Bool × (List Int))) => whole_Sign.f k x⟩)]
def fgs : Nat → List (FuncId × FG) := fun _ => []
def fs (k : Nat) : FS := ⟨[(.st (.pair .bool (.list (.int .u32)))), (.st (.pair .bool (.list (.int .u32))))], [(.int .i64)], fun (x : (Bool × (List Int)) × (Bool × (List Int))) => whole_Cmp.f k x.1 x.2⟩
theorem ok : FnOk Tryz.prog 93 9 Tryz.f93.results.toList (Tryz.f93.body.getD .skip) 2 := ⟨⟨Tryz.f93, by kernel_rfl, by kernel_rfl, by kernel_rfl, rfl, by kernel_rfl⟩, by kernel_rfl, by decide⟩
theorem c (k : Nat) : Contract Tryz.prog 93 (fs k) :=
  fn_sound (ps := [(.st (.pair .bool (.list (.int .u32)))), (.st (.pair .bool (.list (.int .u32))))]) (rs := [(.int .i64)]) (pts := ptL) (fns := fns) (fgs := fgs) (fws := fws) (tys := tyTab) (main := fun k (x : (Bool × (List Int)) × (Bool × (List Int))) => whole_Cmp.f k x.1 x.2) ok mix tyOk trivial (fun k x => by kernel_rfl) (fun k => ⟨⟨whole_Sub.c k, whole_Sign.c k, trivial⟩, trivial, trivial⟩) k
end whole_Cmp

namespace ratio_Cmp
def fws : Nat → List (FuncId × FW) := fun _ => []
def ptL : List (Pt (TD [(.int .i64)])) := []
def fns : Nat → List (FuncId × FS) := fun k => [(89, ⟨[(.st (.pair (.st (.pair .bool (.list (.int .u32)))) (.list (.int .u32))))], [(.st (.pair (.st (.pair .bool (.list (.int .u32)))) (.list (.int .u32))))], fun (x : ((Bool × (List Int)) × (List Int))) => ratio_Norm.f k x⟩), (94, ⟨[(.st (.pair .bool (.list (.int .u32)))), (.st (.pair .bool (.list (.int .u32))))], [(.st (.pair .bool (.list (.int .u32))))], fun (x : (Bool × (List Int)) × (Bool × (List Int))) => whole_Mul.f k x.1 x.2⟩), (93, ⟨[(.st (.pair .bool (.list (.int .u32)))), (.st (.pair .bool (.list (.int .u32))))], [(.int .i64)], fun (x : (Bool × (List Int)) × (Bool × (List Int))) => whole_Cmp.f k x.1 x.2⟩)]
def fgs : Nat → List (FuncId × FG) := fun _ => []
def fs (k : Nat) : FS := ⟨[(.st (.pair (.st (.pair .bool (.list (.int .u32)))) (.list (.int .u32)))), (.st (.pair (.st (.pair .bool (.list (.int .u32)))) (.list (.int .u32))))], [(.int .i64)], fun (x : ((Bool × (List Int)) × (List Int)) × ((Bool × (List Int)) × (List Int))) => ratio_Cmp.f k x.1 x.2⟩
theorem ok : FnOk Tryz.prog 62 22 Tryz.f62.results.toList (Tryz.f62.body.getD .skip) 2 := ⟨⟨Tryz.f62, by kernel_rfl, by kernel_rfl, by kernel_rfl, rfl, by kernel_rfl⟩, by kernel_rfl, by decide⟩
theorem c (k : Nat) : Contract Tryz.prog 62 (fs k) :=
  fn_sound (ps := [(.st (.pair (.st (.pair .bool (.list (.int .u32)))) (.list (.int .u32)))), (.st (.pair (.st (.pair .bool (.list (.int .u32)))) (.list (.int .u32))))]) (rs := [(.int .i64)]) (pts := ptL) (fns := fns) (fgs := fgs) (fws := fws) (tys := tyTab) (main := fun k (x : ((Bool × (List Int)) × (List Int)) × ((Bool × (List Int)) × (List Int))) => ratio_Cmp.f k x.1 x.2) ok mix tyOk trivial (fun k x => by kernel_rfl) (fun k => ⟨⟨ratio_Norm.c k, whole_Mul.c k, whole_Cmp.c k, trivial⟩, trivial, trivial⟩) k
end ratio_Cmp

namespace approx_cmp
def fws : Nat → List (FuncId × FW) := fun _ => []
def ptL : List (Pt (TD [(.int .i64)])) := []
def fns : Nat → List (FuncId × FS) := fun k => [(62, ⟨[(.st (.pair (.st (.pair .bool (.list (.int .u32)))) (.list (.int .u32)))), (.st (.pair (.st (.pair .bool (.list (.int .u32)))) (.list (.int .u32))))], [(.int .i64)], fun (x : ((Bool × (List Int)) × (List Int)) × ((Bool × (List Int)) × (List Int))) => ratio_Cmp.f k x.1 x.2⟩)]
def fgs : Nat → List (FuncId × FG) := fun _ => []
def fs (k : Nat) : FS := ⟨[(.st (.pair (.int .i64) (.st (.pair (.st (.pair .bool (.list (.int .u32)))) (.list (.int .u32)))))), (.st (.pair (.int .i64) (.st (.pair (.st (.pair .bool (.list (.int .u32)))) (.list (.int .u32))))))], [(.int .i64)], fun (x : (Int × ((Bool × (List Int)) × (List Int))) × (Int × ((Bool × (List Int)) × (List Int)))) => approx_cmp.f k x.1 x.2⟩
theorem ok : FnOk Tryz.prog 30 23 Tryz.f30.results.toList (Tryz.f30.body.getD .skip) 2 := ⟨⟨Tryz.f30, by kernel_rfl, by kernel_rfl, by kernel_rfl, rfl, by kernel_rfl⟩, by kernel_rfl, by decide⟩
theorem c (k : Nat) : Contract Tryz.prog 30 (fs k) :=
  fn_sound (ps := [(.st (.pair (.int .i64) (.st (.pair (.st (.pair .bool (.list (.int .u32)))) (.list (.int .u32)))))), (.st (.pair (.int .i64) (.st (.pair (.st (.pair .bool (.list (.int .u32)))) (.list (.int .u32))))))]) (rs := [(.int .i64)]) (pts := ptL) (fns := fns) (fgs := fgs) (fws := fws) (tys := tyTab) (main := fun k (x : (Int × ((Bool × (List Int)) × (List Int))) × (Int × ((Bool × (List Int)) × (List Int)))) => approx_cmp.f k x.1 x.2) ok mix tyOk trivial (fun k x => by kernel_rfl) (fun k => ⟨⟨ratio_Cmp.c k, trivial⟩, trivial, trivial⟩) k
end approx_cmp

namespace approx_In
def fws : Nat → List (FuncId × FW) := fun _ => []
def ptL : List (Pt (TD [.bool])) := []
def fns : Nat → List (FuncId × FS) := fun k => [(11, ⟨[(.st (.pair .flt .flt))], [.bool], fun (x : (Nat × Nat)) => approx_Valid.f k x⟩), (31, ⟨[.flt], [(.st (.pair (.int .i64) (.st (.pair (.st (.pair .bool (.list (.int .u32)))) (.list (.int .u32))))))], fun (x : Nat) => approx_endOf.f k x⟩), (30, ⟨[(.st (.pair (.int .i64) (.st (.pair (.st (.pair .bool (.list (.int .u32)))) (.list (.int .u32)))))), (.st (.pair (.int .i64) (.st (.pair (.st (.pair .bool (.list (.int .u32)))) (.list (.int .u32))))))], [(.int .i64)], fun (x : (Int × ((Bool × (List Int)) × (List Int))) × (Int × ((Bool × (List Int)) × (List Int)))) => approx_cmp.f k x.1 x.2⟩)]
def fgs : Nat → List (FuncId × FG) := fun _ => []
def fs (k : Nat) : FS := ⟨[(.st (.pair (.st (.pair .bool (.list (.int .u32)))) (.list (.int .u32)))), (.st (.pair .flt .flt))], [.bool], fun (x : ((Bool × (List Int)) × (List Int)) × (Nat × Nat)) => approx_In.f k x.1 x.2⟩
theorem ok : FnOk Tryz.prog 9 26 Tryz.f9.results.toList (Tryz.f9.body.getD .skip) 2 := ⟨⟨Tryz.f9, by kernel_rfl, by kernel_rfl, by kernel_rfl, rfl, by kernel_rfl⟩, by kernel_rfl, by decide⟩
theorem c (k : Nat) : Contract Tryz.prog 9 (fs k) :=
  fn_sound (ps := [(.st (.pair (.st (.pair .bool (.list (.int .u32)))) (.list (.int .u32)))), (.st (.pair .flt .flt))]) (rs := [.bool]) (pts := ptL) (fns := fns) (fgs := fgs) (fws := fws) (tys := tyTab) (main := fun k (x : ((Bool × (List Int)) × (List Int)) × (Nat × Nat)) => approx_In.f k x.1 x.2) ok mix tyOk trivial (fun k x => by kernel_rfl) (fun k => ⟨⟨approx_Valid.c k, approx_endOf.c k, approx_cmp.c k, trivial⟩, trivial, trivial⟩) k
end approx_In

namespace ref02_made
def fws : Nat → List (FuncId × FW) := fun _ => []
def ptL : List (Pt (TD [(.st (.pair .bool (.list (.int .u32))))])) := []
def fns : Nat → List (FuncId × FS) := fun k => [(65, ⟨[(.list (.int .u32))], [(.list (.int .u32))], fun (x : (List Int)) => ref01_Norm.f k x⟩)]
def fgs : Nat → List (FuncId × FG) := fun _ => []
def fs (k : Nat) : FS := ⟨[.bool, (.list (.int .u32))], [(.st (.pair .bool (.list (.int .u32))))], fun (x : Bool × (List Int)) => ref02_made.f k x.1 x.2⟩
theorem ok : FnOk Tryz.prog 79 16 Tryz.f79.results.toList (Tryz.f79.body.getD .skip) 2 := ⟨⟨Tryz.f79, by kernel_rfl, by kernel_rfl, by kernel_rfl, rfl, by kernel_rfl⟩, by kernel_rfl, by decide⟩
theorem c (k : Nat) : Contract Tryz.prog 79 (fs k) :=
  fn_sound (ps := [.bool, (.list (.int .u32))]) (rs := [(.st (.pair .bool (.list (.int .u32))))]) (pts := ptL) (fns := fns) (fgs := fgs) (fws := fws) (tys := tyTab) (main := fun k (x : Bool × (List Int)) => ref02_made.f k x.1 x.2) ok mix tyOk trivial (fun k x => by kernel_rfl) (fun k => ⟨⟨ref01_Norm.c k, trivial⟩, trivial, trivial⟩) k
end ref02_made

namespace ref02_Norm
def fws : Nat → List (FuncId × FW) := fun _ => []
def ptL : List (Pt (TD [(.st (.pair .bool (.list (.int .u32))))])) := []
def fns : Nat → List (FuncId × FS) := fun k => [(79, ⟨[.bool, (.list (.int .u32))], [(.st (.pair .bool (.list (.int .u32))))], fun (x : Bool × (List Int)) => ref02_made.f k x.1 x.2⟩)]
def fgs : Nat → List (FuncId × FG) := fun _ => []
def fs (k : Nat) : FS := ⟨[(.st (.pair .bool (.list (.int .u32))))], [(.st (.pair .bool (.list (.int .u32))))], fun (x : (Bool × (List Int))) => ref02_Norm.f k x⟩
theorem ok : FnOk Tryz.prog 64 8 Tryz.f64.results.toList (Tryz.f64.body.getD .skip) 1 := ⟨⟨Tryz.f64, by kernel_rfl, by kernel_rfl, by kernel_rfl, rfl, by kernel_rfl⟩, by kernel_rfl, by decide⟩
theorem c (k : Nat) : Contract Tryz.prog 64 (fs k) :=
  fn_sound (ps := [(.st (.pair .bool (.list (.int .u32))))]) (rs := [(.st (.pair .bool (.list (.int .u32))))]) (pts := ptL) (fns := fns) (fgs := fgs) (fws := fws) (tys := tyTab) (main := fun k (x : (Bool × (List Int))) => ref02_Norm.f k x) ok mix tyOk trivial (fun k x => by kernel_rfl) (fun k => ⟨⟨ref02_made.c k, trivial⟩, trivial, trivial⟩) k
end ref02_Norm

namespace ref01_Gcd
def s19 : PSig := ⟨0, [], [(5, .val (.list (.int .u32)))]⟩
def s0 : PSig := ⟨0, [], [(0, .val (.list (.int .u32))), (1, .val (.list (.int .u32))), (6, .val (.int .i64))]⟩
def s4 : PSig := ⟨0, [], [(0, .val (.list (.int .u32))), (1, .val (.list (.int .u32))), (6, .val (.int .i64))]⟩
def s8 : PSig := ⟨0, [], [(0, .val (.list (.int .u32))), (1, .val (.list (.int .u32))), (6, .val (.int .i64))]⟩
def s16 : PSig := ⟨0, [], [(0, .val (.list (.int .u32))), (6, .val (.int .i64)), (7, .val (.int .i64))]⟩
def s12 : PSig := ⟨0, [], [(0, .val (.list (.int .u32))), (1, .val (.list (.int .u32))), (6, .val (.int .i64))]⟩
def s45 : PSig := ⟨0, [], [(0, .val (.list (.int .u32))), (1, .val (.list (.int .u32))), (6, .val (.int .i64))]⟩
def fws : Nat → List (FuncId × FW) := fun _ => []
def ptL : List (Pt (TD [(.list (.int .u32))])) := [⟨19, s19, fun k (x : (List Int)) => ref01_Gcd.p19 k x⟩, ⟨0, s0, fun k (x : (List Int) × (List Int) × Int) => ref01_Gcd.p0 k x.1 x.2.1 x.2.2⟩, ⟨4, s4, fun k (x : (List Int) × (List Int) × Int) => ref01_Gcd.p4 k x.1 x.2.1 x.2.2⟩, ⟨8, s8, fun k (x : (List Int) × (List Int) × Int) => ref01_Gcd.p8 k x.1 x.2.1 x.2.2⟩, ⟨16, s16, fun k (x : (List Int) × Int × Int) => ref01_Gcd.p16 k x.1 x.2.1 x.2.2⟩, ⟨12, s12, fun k (x : (List Int) × (List Int) × Int) => ref01_Gcd.p12 k x.1 x.2.1 x.2.2⟩, ⟨45, s45, fun k (x : (List Int) × (List Int) × Int) => ref01_Gcd.p45 k x.1 x.2.1 x.2.2⟩]
def fns : Nat → List (FuncId × FS) := fun k => [(65, ⟨[(.list (.int .u32))], [(.list (.int .u32))], fun (x : (List Int)) => ref01_Norm.f k x⟩), (81, ⟨[(.list (.int .u32)), (.list (.int .u32))], [(.int .i64)], fun (x : (List Int) × (List Int)) => ref01_Cmp.f k x.1 x.2⟩), (100, ⟨[(.list (.int .u32)), (.int .i64)], [.bool], fun (x : (List Int) × Int) => ref01_Bit.f k x.1 x.2⟩), (101, ⟨[(.list (.int .u32)), (.int .i64)], [(.list (.int .u32)), (.int .i64)], fun (x : (List Int) × Int) => ref01_Shift.f k x.1 x.2⟩), (102, ⟨[(.list (.int .u32)), .bool], [(.list (.int .u32))], fun (x : (List Int) × Bool) => ref01_twice.f k x.1 x.2⟩), (82, ⟨[(.list (.int .u32)), (.list (.int .u32))], [(.list (.int .u32)), (.int .i64)], fun (x : (List Int) × (List Int)) => ref01_Sub.f k x.1 x.2⟩)]
def fgs : Nat → List (FuncId × FG) := fun _ => []
def fs (k : Nat) : FS := ⟨[(.list (.int .u32)), (.list (.int .u32))], [(.list (.int .u32))], fun (x : (List Int) × (List Int)) => ref01_Gcd.f k x.1 x.2⟩
theorem ok : FnOk Tryz.prog 66 91 Tryz.f66.results.toList (Tryz.f66.body.getD .skip) 2 := ⟨⟨Tryz.f66, by kernel_rfl, by kernel_rfl, by kernel_rfl, rfl, by kernel_rfl⟩, by kernel_rfl, by decide⟩
theorem c (k : Nat) : Contract Tryz.prog 66 (fs k) :=
  fn_sound (ps := [(.list (.int .u32)), (.list (.int .u32))]) (rs := [(.list (.int .u32))]) (pts := ptL) (fns := fns) (fgs := fgs) (fws := fws) (tys := tyTab) (main := fun k (x : (List Int) × (List Int)) => ref01_Gcd.f k x.1 x.2) ok mix tyOk ⟨⟨rfl, fun _ => rfl, fun k x => by kernel_rfl⟩, ⟨rfl, fun _ => rfl, fun k x => by kernel_rfl⟩, ⟨rfl, fun _ => rfl, fun k x => by kernel_rfl⟩, ⟨rfl, fun _ => rfl, fun k x => by kernel_rfl⟩, ⟨rfl, fun _ => rfl, fun k x => by kernel_rfl⟩, ⟨rfl, fun _ => rfl, fun k x => by kernel_rfl⟩, ⟨rfl, fun _ => rfl, fun k x => by kernel_rfl⟩, trivial⟩ (fun k x => by kernel_rfl) (fun k => ⟨⟨ref01_Norm.c k, ref01_Cmp.c k, ref01_Bit.c k, ref01_Shift.c k, ref01_twice.c k, ref01_Sub.c k, trivial⟩, trivial, trivial⟩) k
end ref01_Gcd

namespace ref03_Norm
def s9 : PSig := ⟨0, [(27, (.st (.pair (.st (.pair .bool (.list (.int .u32)))) (.list (.int .u32)))), true)], [(2, .ptr 0 [])]⟩
def fws : Nat → List (FuncId × FW) := fun _ => []
def ptL : List (Pt (TD [(.st (.pair (.st (.pair .bool (.list (.int .u32)))) (.list (.int .u32))))])) := [⟨9, s9, fun k (x : ((Bool × (List Int)) × (List Int))) => ref03_Norm.p9 k x⟩]
def fns : Nat → List (FuncId × FS) := fun k => [(64, ⟨[(.st (.pair .bool (.list (.int .u32))))], [(.st (.pair .bool (.list (.int .u32))))], fun (x : (Bool × (List Int))) => ref02_Norm.f k x⟩), (65, ⟨[(.list (.int .u32))], [(.list (.int .u32))], fun (x : (List Int)) => ref01_Norm.f k x⟩), (66, ⟨[(.list (.int .u32)), (.list (.int .u32))], [(.list (.int .u32))], fun (x : (List Int) × (List Int)) => ref01_Gcd.f k x.1 x.2⟩), (67, ⟨[(.list (.int .u32)), (.list (.int .u32))], [(.list (.int .u32)), (.list (.int .u32)), (.int .i64)], fun (x : (List Int) × (List Int)) => ref01_Div.f k x.1 x.2⟩)]
def fgs : Nat → List (FuncId × FG) := fun _ => []
def fs (k : Nat) : FS := ⟨[(.st (.pair (.st (.pair .bool (.list (.int .u32)))) (.list (.int .u32))))], [(.st (.pair (.st (.pair .bool (.list (.int .u32)))) (.list (.int .u32))))], fun (x : ((Bool × (List Int)) × (List Int))) => ref03_Norm.f k x⟩
theorem ok : FnOk Tryz.prog 32 55 Tryz.f32.results.toList (Tryz.f32.body.getD .skip) 1 := ⟨⟨Tryz.f32, by kernel_rfl, by kernel_rfl, by kernel_rfl, rfl, by kernel_rfl⟩, by kernel_rfl, by decide⟩
theorem c (k : Nat) : Contract Tryz.prog 32 (fs k) :=
  fn_sound (ps := [(.st (.pair (.st (.pair .bool (.list (.int .u32)))) (.list (.int .u32))))]) (rs := [(.st (.pair (.st (.pair .bool (.list (.int .u32)))) (.list (.int .u32))))]) (pts := ptL) (fns := fns) (fgs := fgs) (fws := fws) (tys := tyTab) (main := fun k (x : ((Bool × (List Int)) × (List Int))) => ref03_Norm.f k x) ok mix tyOk ⟨⟨rfl, fun _ => rfl, fun k x => by kernel_rfl⟩, trivial⟩ (fun k x => by kernel_rfl) (fun k => ⟨⟨ref02_Norm.c k, ref01_Norm.c k, ref01_Gcd.c k, ref01_Div.c k, trivial⟩, trivial, trivial⟩) k
end ref03_Norm

namespace ref04_IsNaN
def fws : Nat → List (FuncId × FW) := fun _ => []
def ptL : List (Pt (TD [.bool])) := []
def fns : Nat → List (FuncId × FS) := fun _ => []
def fgs : Nat → List (FuncId × FG) := fun _ => []
def fs (k : Nat) : FS := ⟨[(.int .u64)], [.bool], fun (x : Int) => ref04_IsNaN.f k x⟩
theorem ok : FnOk Tryz.prog 37 6 Tryz.f37.results.toList (Tryz.f37.body.getD .skip) 1 := ⟨⟨Tryz.f37, by kernel_rfl, by kernel_rfl, by kernel_rfl, rfl, by kernel_rfl⟩, by kernel_rfl, by decide⟩
theorem c (k : Nat) : Contract Tryz.prog 37 (fs k) :=
  fn_sound (ps := [(.int .u64)]) (rs := [.bool]) (pts := ptL) (fns := fns) (fgs := fgs) (fws := fws) (tys := tyTab) (main := fun k (x : Int) => ref04_IsNaN.f k x) ok mix tyOk trivial (fun k x => by kernel_rfl) (fun _ => ⟨trivial, trivial, trivial⟩) k
end ref04_IsNaN

namespace ref04_IsInf
def fws : Nat → List (FuncId × FW) := fun _ => []
def ptL : List (Pt (TD [.bool])) := []
def fns : Nat → List (FuncId × FS) := fun _ => []
def fgs : Nat → List (FuncId × FG) := fun _ => []
def fs (k : Nat) : FS := ⟨[(.int .u64)], [.bool], fun (x : Int) => ref04_IsInf.f k x⟩
theorem ok : FnOk Tryz.prog 69 6 Tryz.f69.results.toList (Tryz.f69.body.getD .skip) 1 := ⟨⟨Tryz.f69, by kernel_rfl, by kernel_rfl, by kernel_rfl, rfl, by kernel_rfl⟩, by kernel_rfl, by decide⟩
theorem c (k : Nat) : Contract Tryz.prog 69 (fs k) :=
  fn_sound (ps := [(.int .u64)]) (rs := [.bool]) (pts := ptL) (fns := fns) (fgs := fgs) (fws := fws) (tys := tyTab) (main := fun k (x : Int) => ref04_IsInf.f k x) ok mix tyOk trivial (fun k x => by kernel_rfl) (fun _ => ⟨trivial, trivial, trivial⟩) k
end ref04_IsInf

namespace ref04_parts
def fws : Nat → List (FuncId × FW) := fun _ => []
def ptL : List (Pt (TD [(.int .u64), (.int .i64)])) := []
def fns : Nat → List (FuncId × FS) := fun _ => []
def fgs : Nat → List (FuncId × FG) := fun _ => []
def fs (k : Nat) : FS := ⟨[(.int .u64)], [(.int .u64), (.int .i64)], fun (x : Int) => ref04_parts.f k x⟩
theorem ok : FnOk Tryz.prog 125 18 Tryz.f125.results.toList (Tryz.f125.body.getD .skip) 1 := ⟨⟨Tryz.f125, by kernel_rfl, by kernel_rfl, by kernel_rfl, rfl, by kernel_rfl⟩, by kernel_rfl, by decide⟩
theorem c (k : Nat) : Contract Tryz.prog 125 (fs k) :=
  fn_sound (ps := [(.int .u64)]) (rs := [(.int .u64), (.int .i64)]) (pts := ptL) (fns := fns) (fgs := fgs) (fws := fws) (tys := tyTab) (main := fun k (x : Int) => ref04_parts.f k x) ok mix tyOk trivial (fun k x => by kernel_rfl) (fun _ => ⟨trivial, trivial, trivial⟩) k
end ref04_parts

namespace ref01_Of
def fws : Nat → List (FuncId × FW) := fun _ => []
def ptL : List (Pt (TD [(.list (.int .u32))])) := []
def fns : Nat → List (FuncId × FS) := fun k => [(65, ⟨[(.list (.int .u32))], [(.list (.int .u32))], fun (x : (List Int)) => ref01_Norm.f k x⟩)]
def fgs : Nat → List (FuncId × FG) := fun _ => []
def fs (k : Nat) : FS := ⟨[(.int .u64)], [(.list (.int .u32))], fun (x : Int) => ref01_Of.f k x⟩
theorem ok : FnOk Tryz.prog 126 10 Tryz.f126.results.toList (Tryz.f126.body.getD .skip) 1 := ⟨⟨Tryz.f126, by kernel_rfl, by kernel_rfl, by kernel_rfl, rfl, by kernel_rfl⟩, by kernel_rfl, by decide⟩
theorem c (k : Nat) : Contract Tryz.prog 126 (fs k) :=
  fn_sound (ps := [(.int .u64)]) (rs := [(.list (.int .u32))]) (pts := ptL) (fns := fns) (fgs := fgs) (fws := fws) (tys := tyTab) (main := fun k (x : Int) => ref01_Of.f k x) ok mix tyOk trivial (fun k x => by kernel_rfl) (fun k => ⟨⟨ref01_Norm.c k, trivial⟩, trivial, trivial⟩) k
end ref01_Of

namespace ref04_power
def fws : Nat → List (FuncId × FW) := fun _ => []
def ptL : List (Pt (TD [(.st (.pair (.st (.pair .bool (.list (.int .u32)))) (.list (.int .u32))))])) := []
def fns : Nat → List (FuncId × FS) := fun k => [(101, ⟨[(.list (.int .u32)), (.int .i64)], [(.list (.int .u32)), (.int .i64)], fun (x : (List Int) × Int) => ref01_Shift.f k x.1 x.2⟩)]
def fgs : Nat → List (FuncId × FG) := fun _ => []
def fs (k : Nat) : FS := ⟨[(.int .i64)], [(.st (.pair (.st (.pair .bool (.list (.int .u32)))) (.list (.int .u32))))], fun (x : Int) => ref04_power.f k x⟩
theorem ok : FnOk Tryz.prog 127 30 Tryz.f127.results.toList (Tryz.f127.body.getD .skip) 1 := ⟨⟨Tryz.f127, by kernel_rfl, by kernel_rfl, by kernel_rfl, rfl, by kernel_rfl⟩, by kernel_rfl, by decide⟩
theorem c (k : Nat) : Contract Tryz.prog 127 (fs k) :=
  fn_sound (ps := [(.int .i64)]) (rs := [(.st (.pair (.st (.pair .bool (.list (.int .u32)))) (.list (.int .u32))))]) (pts := ptL) (fns := fns) (fgs := fgs) (fws := fws) (tys := tyTab) (main := fun k (x : Int) => ref04_power.f k x) ok mix tyOk trivial (fun k x => by kernel_rfl) (fun k => ⟨⟨ref01_Shift.c k, trivial⟩, trivial, trivial⟩) k
end ref04_power

namespace ref01_Mul
def s0 : PSig := ⟨0, [(80, (.int .u32), false)], [(0, .val (.list (.int .u32))), (1, .val (.list (.int .u32))), (5, .own 0), (6, .val (.int .i64))]⟩
def s4 : PSig := ⟨0, [(80, (.int .u32), false)], [(0, .val (.list (.int .u32))), (1, .val (.list (.int .u32))), (5, .own 0), (6, .val (.int .i64)), (7, .val (.int .u64)), (8, .val (.int .i64))]⟩
def fws : Nat → List (FuncId × FW) := fun _ => []
def ptL : List (Pt (TD [(.list (.int .u32))])) := [⟨0, s0, fun k (x : (List Int) × (List Int) × (List Int) × Int) => ref01_Mul.p0 k x.1 x.2.1 x.2.2.1 x.2.2.2⟩, ⟨4, s4, fun k (x : (List Int) × (List Int) × (List Int) × Int × Int × Int) => ref01_Mul.p4 k x.1 x.2.1 x.2.2.1 x.2.2.2.1 x.2.2.2.2.1 x.2.2.2.2.2⟩]
def fns : Nat → List (FuncId × FS) := fun k => [(65, ⟨[(.list (.int .u32))], [(.list (.int .u32))], fun (x : (List Int)) => ref01_Norm.f k x⟩)]
def fgs : Nat → List (FuncId × FG) := fun _ => []
def fs (k : Nat) : FS := ⟨[(.list (.int .u32)), (.list (.int .u32))], [(.list (.int .u32))], fun (x : (List Int) × (List Int)) => ref01_Mul.f k x.1 x.2⟩
theorem ok : FnOk Tryz.prog 54 68 Tryz.f54.results.toList (Tryz.f54.body.getD .skip) 2 := ⟨⟨Tryz.f54, by kernel_rfl, by kernel_rfl, by kernel_rfl, rfl, by kernel_rfl⟩, by kernel_rfl, by decide⟩
theorem c (k : Nat) : Contract Tryz.prog 54 (fs k) :=
  fn_sound (ps := [(.list (.int .u32)), (.list (.int .u32))]) (rs := [(.list (.int .u32))]) (pts := ptL) (fns := fns) (fgs := fgs) (fws := fws) (tys := tyTab) (main := fun k (x : (List Int) × (List Int)) => ref01_Mul.f k x.1 x.2) ok mix tyOk ⟨⟨rfl, fun _ => rfl, fun k x => by kernel_rfl⟩, ⟨rfl, fun _ => rfl, fun k x => by kernel_rfl⟩, trivial⟩ (fun k x => by kernel_rfl) (fun k => ⟨⟨ref01_Norm.c k, trivial⟩, trivial, trivial⟩) k
end ref01_Mul

namespace ref02_Mul
def fws : Nat → List (FuncId × FW) := fun _ => []
def ptL : List (Pt (TD [(.st (.pair .bool (.list (.int .u32))))])) := []
def fns : Nat → List (FuncId × FS) := fun k => [(54, ⟨[(.list (.int .u32)), (.list (.int .u32))], [(.list (.int .u32))], fun (x : (List Int) × (List Int)) => ref01_Mul.f k x.1 x.2⟩), (79, ⟨[.bool, (.list (.int .u32))], [(.st (.pair .bool (.list (.int .u32))))], fun (x : Bool × (List Int)) => ref02_made.f k x.1 x.2⟩)]
def fgs : Nat → List (FuncId × FG) := fun _ => []
def fs (k : Nat) : FS := ⟨[(.st (.pair .bool (.list (.int .u32)))), (.st (.pair .bool (.list (.int .u32))))], [(.st (.pair .bool (.list (.int .u32))))], fun (x : (Bool × (List Int)) × (Bool × (List Int))) => ref02_Mul.f k x.1 x.2⟩
theorem ok : FnOk Tryz.prog 52 16 Tryz.f52.results.toList (Tryz.f52.body.getD .skip) 2 := ⟨⟨Tryz.f52, by kernel_rfl, by kernel_rfl, by kernel_rfl, rfl, by kernel_rfl⟩, by kernel_rfl, by decide⟩
theorem c (k : Nat) : Contract Tryz.prog 52 (fs k) :=
  fn_sound (ps := [(.st (.pair .bool (.list (.int .u32)))), (.st (.pair .bool (.list (.int .u32))))]) (rs := [(.st (.pair .bool (.list (.int .u32))))]) (pts := ptL) (fns := fns) (fgs := fgs) (fws := fws) (tys := tyTab) (main := fun k (x : (Bool × (List Int)) × (Bool × (List Int))) => ref02_Mul.f k x.1 x.2) ok mix tyOk trivial (fun k x => by kernel_rfl) (fun k => ⟨⟨ref01_Mul.c k, ref02_made.c k, trivial⟩, trivial, trivial⟩) k
end ref02_Mul

namespace ref03_Mul
def fws : Nat → List (FuncId × FW) := fun _ => []
def ptL : List (Pt (TD [(.st (.pair (.st (.pair .bool (.list (.int .u32)))) (.list (.int .u32))))])) := []
def fns : Nat → List (FuncId × FS) := fun k => [(32, ⟨[(.st (.pair (.st (.pair .bool (.list (.int .u32)))) (.list (.int .u32))))], [(.st (.pair (.st (.pair .bool (.list (.int .u32)))) (.list (.int .u32))))], fun (x : ((Bool × (List Int)) × (List Int))) => ref03_Norm.f k x⟩), (52, ⟨[(.st (.pair .bool (.list (.int .u32)))), (.st (.pair .bool (.list (.int .u32))))], [(.st (.pair .bool (.list (.int .u32))))], fun (x : (Bool × (List Int)) × (Bool × (List Int))) => ref02_Mul.f k x.1 x.2⟩), (54, ⟨[(.list (.int .u32)), (.list (.int .u32))], [(.list (.int .u32))], fun (x : (List Int) × (List Int)) => ref01_Mul.f k x.1 x.2⟩)]
def fgs : Nat → List (FuncId × FG) := fun _ => []
def fs (k : Nat) : FS := ⟨[(.st (.pair (.st (.pair .bool (.list (.int .u32)))) (.list (.int .u32)))), (.st (.pair (.st (.pair .bool (.list (.int .u32)))) (.list (.int .u32))))], [(.st (.pair (.st (.pair .bool (.list (.int .u32)))) (.list (.int .u32))))], fun (x : ((Bool × (List Int)) × (List Int)) × ((Bool × (List Int)) × (List Int))) => ref03_Mul.f k x.1 x.2⟩
theorem ok : FnOk Tryz.prog 23 21 Tryz.f23.results.toList (Tryz.f23.body.getD .skip) 2 := ⟨⟨Tryz.f23, by kernel_rfl, by kernel_rfl, by kernel_rfl, rfl, by kernel_rfl⟩, by kernel_rfl, by decide⟩
theorem c (k : Nat) : Contract Tryz.prog 23 (fs k) :=
  fn_sound (ps := [(.st (.pair (.st (.pair .bool (.list (.int .u32)))) (.list (.int .u32)))), (.st (.pair (.st (.pair .bool (.list (.int .u32)))) (.list (.int .u32))))]) (rs := [(.st (.pair (.st (.pair .bool (.list (.int .u32)))) (.list (.int .u32))))]) (pts := ptL) (fns := fns) (fgs := fgs) (fws := fws) (tys := tyTab) (main := fun k (x : ((Bool × (List Int)) × (List Int)) × ((Bool × (List Int)) × (List Int))) => ref03_Mul.f k x.1 x.2) ok mix tyOk trivial (fun k x => by kernel_rfl) (fun k => ⟨⟨ref03_Norm.c k, ref02_Mul.c k, ref01_Mul.c k, trivial⟩, trivial, trivial⟩) k
end ref03_Mul

namespace ref04_Amount
def fws : Nat → List (FuncId × FW) := fun _ => []
def ptL : List (Pt (TD [(.st (.pair (.st (.pair .bool (.list (.int .u32)))) (.list (.int .u32))))])) := []
def fns : Nat → List (FuncId × FS) := fun k => [(125, ⟨[(.int .u64)], [(.int .u64), (.int .i64)], fun (x : Int) => ref04_parts.f k x⟩), (126, ⟨[(.int .u64)], [(.list (.int .u32))], fun (x : Int) => ref01_Of.f k x⟩), (127, ⟨[(.int .i64)], [(.st (.pair (.st (.pair .bool (.list (.int .u32)))) (.list (.int .u32))))], fun (x : Int) => ref04_power.f k x⟩), (23, ⟨[(.st (.pair (.st (.pair .bool (.list (.int .u32)))) (.list (.int .u32)))), (.st (.pair (.st (.pair .bool (.list (.int .u32)))) (.list (.int .u32))))], [(.st (.pair (.st (.pair .bool (.list (.int .u32)))) (.list (.int .u32))))], fun (x : ((Bool × (List Int)) × (List Int)) × ((Bool × (List Int)) × (List Int))) => ref03_Mul.f k x.1 x.2⟩)]
def fgs : Nat → List (FuncId × FG) := fun _ => []
def fs (k : Nat) : FS := ⟨[(.int .u64)], [(.st (.pair (.st (.pair .bool (.list (.int .u32)))) (.list (.int .u32))))], fun (x : Int) => ref04_Amount.f k x⟩
theorem ok : FnOk Tryz.prog 104 18 Tryz.f104.results.toList (Tryz.f104.body.getD .skip) 1 := ⟨⟨Tryz.f104, by kernel_rfl, by kernel_rfl, by kernel_rfl, rfl, by kernel_rfl⟩, by kernel_rfl, by decide⟩
theorem c (k : Nat) : Contract Tryz.prog 104 (fs k) :=
  fn_sound (ps := [(.int .u64)]) (rs := [(.st (.pair (.st (.pair .bool (.list (.int .u32)))) (.list (.int .u32))))]) (pts := ptL) (fns := fns) (fgs := fgs) (fws := fws) (tys := tyTab) (main := fun k (x : Int) => ref04_Amount.f k x) ok mix tyOk trivial (fun k x => by kernel_rfl) (fun k => ⟨⟨ref04_parts.c k, ref01_Of.c k, ref04_power.c k, ref03_Mul.c k, trivial⟩, trivial, trivial⟩) k
end ref04_Amount

namespace ref02_Neg
def fws : Nat → List (FuncId × FW) := fun _ => []
def ptL : List (Pt (TD [(.st (.pair .bool (.list (.int .u32))))])) := []
def fns : Nat → List (FuncId × FS) := fun k => [(79, ⟨[.bool, (.list (.int .u32))], [(.st (.pair .bool (.list (.int .u32))))], fun (x : Bool × (List Int)) => ref02_made.f k x.1 x.2⟩)]
def fgs : Nat → List (FuncId × FG) := fun _ => []
def fs (k : Nat) : FS := ⟨[(.st (.pair .bool (.list (.int .u32))))], [(.st (.pair .bool (.list (.int .u32))))], fun (x : (Bool × (List Int))) => ref02_Neg.f k x⟩
theorem ok : FnOk Tryz.prog 83 9 Tryz.f83.results.toList (Tryz.f83.body.getD .skip) 1 := ⟨⟨Tryz.f83, by kernel_rfl, by kernel_rfl, by kernel_rfl, rfl, by kernel_rfl⟩, by kernel_rfl, by decide⟩
theorem c (k : Nat) : Contract Tryz.prog 83 (fs k) :=
  fn_sound (ps := [(.st (.pair .bool (.list (.int .u32))))]) (rs := [(.st (.pair .bool (.list (.int .u32))))]) (pts := ptL) (fns := fns) (fgs := fgs) (fws := fws) (tys := tyTab) (main := fun k (x : (Bool × (List Int))) => ref02_Neg.f k x) ok mix tyOk trivial (fun k x => by kernel_rfl) (fun k => ⟨⟨ref02_made.c k, trivial⟩, trivial, trivial⟩) k
end ref02_Neg

namespace ref03_Neg
def fws : Nat → List (FuncId × FW) := fun _ => []
def ptL : List (Pt (TD [(.st (.pair (.st (.pair .bool (.list (.int .u32)))) (.list (.int .u32))))])) := []
def fns : Nat → List (FuncId × FS) := fun k => [(32, ⟨[(.st (.pair (.st (.pair .bool (.list (.int .u32)))) (.list (.int .u32))))], [(.st (.pair (.st (.pair .bool (.list (.int .u32)))) (.list (.int .u32))))], fun (x : ((Bool × (List Int)) × (List Int))) => ref03_Norm.f k x⟩), (83, ⟨[(.st (.pair .bool (.list (.int .u32))))], [(.st (.pair .bool (.list (.int .u32))))], fun (x : (Bool × (List Int))) => ref02_Neg.f k x⟩)]
def fgs : Nat → List (FuncId × FG) := fun _ => []
def fs (k : Nat) : FS := ⟨[(.st (.pair (.st (.pair .bool (.list (.int .u32)))) (.list (.int .u32))))], [(.st (.pair (.st (.pair .bool (.list (.int .u32)))) (.list (.int .u32))))], fun (x : ((Bool × (List Int)) × (List Int))) => ref03_Neg.f k x⟩
theorem ok : FnOk Tryz.prog 55 12 Tryz.f55.results.toList (Tryz.f55.body.getD .skip) 1 := ⟨⟨Tryz.f55, by kernel_rfl, by kernel_rfl, by kernel_rfl, rfl, by kernel_rfl⟩, by kernel_rfl, by decide⟩
theorem c (k : Nat) : Contract Tryz.prog 55 (fs k) :=
  fn_sound (ps := [(.st (.pair (.st (.pair .bool (.list (.int .u32)))) (.list (.int .u32))))]) (rs := [(.st (.pair (.st (.pair .bool (.list (.int .u32)))) (.list (.int .u32))))]) (pts := ptL) (fns := fns) (fgs := fgs) (fws := fws) (tys := tyTab) (main := fun k (x : ((Bool × (List Int)) × (List Int))) => ref03_Neg.f k x) ok mix tyOk trivial (fun k x => by kernel_rfl) (fun k => ⟨⟨ref03_Norm.c k, ref02_Neg.c k, trivial⟩, trivial, trivial⟩) k
end ref03_Neg

namespace ref04_Number
def fws : Nat → List (FuncId × FW) := fun _ => []
def ptL : List (Pt (TD [(.st (.pair (.st (.pair .bool (.list (.int .u32)))) (.list (.int .u32))))])) := []
def fns : Nat → List (FuncId × FS) := fun k => [(104, ⟨[(.int .u64)], [(.st (.pair (.st (.pair .bool (.list (.int .u32)))) (.list (.int .u32))))], fun (x : Int) => ref04_Amount.f k x⟩), (55, ⟨[(.st (.pair (.st (.pair .bool (.list (.int .u32)))) (.list (.int .u32))))], [(.st (.pair (.st (.pair .bool (.list (.int .u32)))) (.list (.int .u32))))], fun (x : ((Bool × (List Int)) × (List Int))) => ref03_Neg.f k x⟩)]
def fgs : Nat → List (FuncId × FG) := fun _ => []
def fs (k : Nat) : FS := ⟨[(.int .u64)], [(.st (.pair (.st (.pair .bool (.list (.int .u32)))) (.list (.int .u32))))], fun (x : Int) => ref04_Number.f k x⟩
theorem ok : FnOk Tryz.prog 70 12 Tryz.f70.results.toList (Tryz.f70.body.getD .skip) 1 := ⟨⟨Tryz.f70, by kernel_rfl, by kernel_rfl, by kernel_rfl, rfl, by kernel_rfl⟩, by kernel_rfl, by decide⟩
theorem c (k : Nat) : Contract Tryz.prog 70 (fs k) :=
  fn_sound (ps := [(.int .u64)]) (rs := [(.st (.pair (.st (.pair .bool (.list (.int .u32)))) (.list (.int .u32))))]) (pts := ptL) (fns := fns) (fgs := fgs) (fws := fws) (tys := tyTab) (main := fun k (x : Int) => ref04_Number.f k x) ok mix tyOk trivial (fun k x => by kernel_rfl) (fun k => ⟨⟨ref04_Amount.c k, ref03_Neg.c k, trivial⟩, trivial, trivial⟩) k
end ref04_Number

namespace ref04_endOf
def fws : Nat → List (FuncId × FW) := fun _ => []
def ptL : List (Pt (TD [(.st (.pair (.int .i64) (.st (.pair (.st (.pair .bool (.list (.int .u32)))) (.list (.int .u32))))))])) := []
def fns : Nat → List (FuncId × FS) := fun k => [(36, ⟨[.flt], [(.int .u64)], fun (x : Nat) => math_Float64bits.f k x⟩), (69, ⟨[(.int .u64)], [.bool], fun (x : Int) => ref04_IsInf.f k x⟩), (70, ⟨[(.int .u64)], [(.st (.pair (.st (.pair .bool (.list (.int .u32)))) (.list (.int .u32))))], fun (x : Int) => ref04_Number.f k x⟩), (32, ⟨[(.st (.pair (.st (.pair .bool (.list (.int .u32)))) (.list (.int .u32))))], [(.st (.pair (.st (.pair .bool (.list (.int .u32)))) (.list (.int .u32))))], fun (x : ((Bool × (List Int)) × (List Int))) => ref03_Norm.f k x⟩)]
def fgs : Nat → List (FuncId × FG) := fun _ => []
def fs (k : Nat) : FS := ⟨[.flt], [(.st (.pair (.int .i64) (.st (.pair (.st (.pair .bool (.list (.int .u32)))) (.list (.int .u32))))))], fun (x : Nat) => ref04_endOf.f k x⟩
theorem ok : FnOk Tryz.prog 34 18 Tryz.f34.results.toList (Tryz.f34.body.getD .skip) 1 := ⟨⟨Tryz.f34, by kernel_rfl, by kernel_rfl, by kernel_rfl, rfl, by kernel_rfl⟩, by kernel_rfl, by decide⟩
theorem c (k : Nat) : Contract Tryz.prog 34 (fs k) :=
  fn_sound (ps := [.flt]) (rs := [(.st (.pair (.int .i64) (.st (.pair (.st (.pair .bool (.list (.int .u32)))) (.list (.int .u32))))))]) (pts := ptL) (fns := fns) (fgs := fgs) (fws := fws) (tys := tyTab) (main := fun k (x : Nat) => ref04_endOf.f k x) ok mix tyOk trivial (fun k x => by kernel_rfl) (fun k => ⟨⟨math_Float64bits.c k, ref04_IsInf.c k, ref04_Number.c k, ref03_Norm.c k, trivial⟩, trivial, trivial⟩) k
end ref04_endOf

namespace ref03_positive
def fws : Nat → List (FuncId × FW) := fun _ => []
def ptL : List (Pt (TD [(.st (.pair .bool (.list (.int .u32))))])) := []
def fns : Nat → List (FuncId × FS) := fun _ => []
def fgs : Nat → List (FuncId × FG) := fun _ => []
def fs (k : Nat) : FS := ⟨[(.list (.int .u32))], [(.st (.pair .bool (.list (.int .u32))))], fun (x : (List Int)) => ref03_positive.f k x⟩
theorem ok : FnOk Tryz.prog 53 5 Tryz.f53.results.toList (Tryz.f53.body.getD .skip) 1 := ⟨⟨Tryz.f53, by kernel_rfl, by kernel_rfl, by kernel_rfl, rfl, by kernel_rfl⟩, by kernel_rfl, by decide⟩
theorem c (k : Nat) : Contract Tryz.prog 53 (fs k) :=
  fn_sound (ps := [(.list (.int .u32))]) (rs := [(.st (.pair .bool (.list (.int .u32))))]) (pts := ptL) (fns := fns) (fgs := fgs) (fws := fws) (tys := tyTab) (main := fun k (x : (List Int)) => ref03_positive.f k x) ok mix tyOk trivial (fun k x => by kernel_rfl) (fun _ => ⟨trivial, trivial, trivial⟩) k
end ref03_positive

namespace ref01_Add
def s9 : PSig := ⟨0, [], [(0, .val (.list (.int .u32))), (1, .val (.list (.int .u32))), (5, .val (.int .i64))]⟩
def s0 : PSig := ⟨0, [(80, (.int .u32), false)], [(0, .val (.list (.int .u32))), (1, .val (.list (.int .u32))), (5, .val (.int .i64)), (6, .own 0), (7, .val (.int .u64)), (8, .val (.int .i64))]⟩
def fws : Nat → List (FuncId × FW) := fun _ => []
def ptL : List (Pt (TD [(.list (.int .u32))])) := [⟨9, s9, fun k (x : (List Int) × (List Int) × Int) => ref01_Add.p9 k x.1 x.2.1 x.2.2⟩, ⟨0, s0, fun k (x : (List Int) × (List Int) × (List Int) × Int × Int × Int) => ref01_Add.p0 k x.1 x.2.1 x.2.2.1 x.2.2.2.1 x.2.2.2.2.1 x.2.2.2.2.2⟩]
def fns : Nat → List (FuncId × FS) := fun k => [(110, ⟨[(.list (.int .u32)), (.int .i64)], [(.int .u64)], fun (x : (List Int) × Int) => ref01_at.f k x.1 x.2⟩), (65, ⟨[(.list (.int .u32))], [(.list (.int .u32))], fun (x : (List Int)) => ref01_Norm.f k x⟩)]
def fgs : Nat → List (FuncId × FG) := fun _ => []
def fs (k : Nat) : FS := ⟨[(.list (.int .u32)), (.list (.int .u32))], [(.list (.int .u32))], fun (x : (List Int) × (List Int)) => ref01_Add.f k x.1 x.2⟩
theorem ok : FnOk Tryz.prog 80 44 Tryz.f80.results.toList (Tryz.f80.body.getD .skip) 2 := ⟨⟨Tryz.f80, by kernel_rfl, by kernel_rfl, by kernel_rfl, rfl, by kernel_rfl⟩, by kernel_rfl, by decide⟩
theorem c (k : Nat) : Contract Tryz.prog 80 (fs k) :=
  fn_sound (ps := [(.list (.int .u32)), (.list (.int .u32))]) (rs := [(.list (.int .u32))]) (pts := ptL) (fns := fns) (fgs := fgs) (fws := fws) (tys := tyTab) (main := fun k (x : (List Int) × (List Int)) => ref01_Add.f k x.1 x.2) ok mix tyOk ⟨⟨rfl, fun _ => rfl, fun k x => by kernel_rfl⟩, ⟨rfl, fun _ => rfl, fun k x => by kernel_rfl⟩, trivial⟩ (fun k x => by kernel_rfl) (fun k => ⟨⟨ref01_at.c k, ref01_Norm.c k, trivial⟩, trivial, trivial⟩) k
end ref01_Add

namespace ref02_Add
def fws : Nat → List (FuncId × FW) := fun _ => []
def ptL : List (Pt (TD [(.st (.pair .bool (.list (.int .u32))))])) := []
def fns : Nat → List (FuncId × FS) := fun k => [(80, ⟨[(.list (.int .u32)), (.list (.int .u32))], [(.list (.int .u32))], fun (x : (List Int) × (List Int)) => ref01_Add.f k x.1 x.2⟩), (79, ⟨[.bool, (.list (.int .u32))], [(.st (.pair .bool (.list (.int .u32))))], fun (x : Bool × (List Int)) => ref02_made.f k x.1 x.2⟩), (81, ⟨[(.list (.int .u32)), (.list (.int .u32))], [(.int .i64)], fun (x : (List Int) × (List Int)) => ref01_Cmp.f k x.1 x.2⟩), (82, ⟨[(.list (.int .u32)), (.list (.int .u32))], [(.list (.int .u32)), (.int .i64)], fun (x : (List Int) × (List Int)) => ref01_Sub.f k x.1 x.2⟩)]
def fgs : Nat → List (FuncId × FG) := fun _ => []
def fs (k : Nat) : FS := ⟨[(.st (.pair .bool (.list (.int .u32)))), (.st (.pair .bool (.list (.int .u32))))], [(.st (.pair .bool (.list (.int .u32))))], fun (x : (Bool × (List Int)) × (Bool × (List Int))) => ref02_Add.f k x.1 x.2⟩
theorem ok : FnOk Tryz.prog 51 52 Tryz.f51.results.toList (Tryz.f51.body.getD .skip) 2 := ⟨⟨Tryz.f51, by kernel_rfl, by kernel_rfl, by kernel_rfl, rfl, by kernel_rfl⟩, by kernel_rfl, by decide⟩
theorem c (k : Nat) : Contract Tryz.prog 51 (fs k) :=
  fn_sound (ps := [(.st (.pair .bool (.list (.int .u32)))), (.st (.pair .bool (.list (.int .u32))))]) (rs := [(.st (.pair .bool (.list (.int .u32))))]) (pts := ptL) (fns := fns) (fgs := fgs) (fws := fws) (tys := tyTab) (main := fun k (x : (Bool × (List Int)) × (Bool × (List Int))) => ref02_Add.f k x.1 x.2) ok mix tyOk trivial (fun k x => by kernel_rfl) (fun k => ⟨⟨ref01_Add.c k, ref02_made.c k, ref01_Cmp.c k, ref01_Sub.c k, trivial⟩, trivial, trivial⟩) k
end ref02_Add

namespace ref03_Add
def fws : Nat → List (FuncId × FW) := fun _ => []
def ptL : List (Pt (TD [(.st (.pair (.st (.pair .bool (.list (.int .u32)))) (.list (.int .u32))))])) := []
def fns : Nat → List (FuncId × FS) := fun k => [(32, ⟨[(.st (.pair (.st (.pair .bool (.list (.int .u32)))) (.list (.int .u32))))], [(.st (.pair (.st (.pair .bool (.list (.int .u32)))) (.list (.int .u32))))], fun (x : ((Bool × (List Int)) × (List Int))) => ref03_Norm.f k x⟩), (53, ⟨[(.list (.int .u32))], [(.st (.pair .bool (.list (.int .u32))))], fun (x : (List Int)) => ref03_positive.f k x⟩), (52, ⟨[(.st (.pair .bool (.list (.int .u32)))), (.st (.pair .bool (.list (.int .u32))))], [(.st (.pair .bool (.list (.int .u32))))], fun (x : (Bool × (List Int)) × (Bool × (List Int))) => ref02_Mul.f k x.1 x.2⟩), (51, ⟨[(.st (.pair .bool (.list (.int .u32)))), (.st (.pair .bool (.list (.int .u32))))], [(.st (.pair .bool (.list (.int .u32))))], fun (x : (Bool × (List Int)) × (Bool × (List Int))) => ref02_Add.f k x.1 x.2⟩), (54, ⟨[(.list (.int .u32)), (.list (.int .u32))], [(.list (.int .u32))], fun (x : (List Int) × (List Int)) => ref01_Mul.f k x.1 x.2⟩)]
def fgs : Nat → List (FuncId × FG) := fun _ => []
def fs (k : Nat) : FS := ⟨[(.st (.pair (.st (.pair .bool (.list (.int .u32)))) (.list (.int .u32)))), (.st (.pair (.st (.pair .bool (.list (.int .u32)))) (.list (.int .u32))))], [(.st (.pair (.st (.pair .bool (.list (.int .u32)))) (.list (.int .u32))))], fun (x : ((Bool × (List Int)) × (List Int)) × ((Bool × (List Int)) × (List Int))) => ref03_Add.f k x.1 x.2⟩
theorem ok : FnOk Tryz.prog 21 31 Tryz.f21.results.toList (Tryz.f21.body.getD .skip) 2 := ⟨⟨Tryz.f21, by kernel_rfl, by kernel_rfl, by kernel_rfl, rfl, by kernel_rfl⟩, by kernel_rfl, by decide⟩
theorem c (k : Nat) : Contract Tryz.prog 21 (fs k) :=
  fn_sound (ps := [(.st (.pair (.st (.pair .bool (.list (.int .u32)))) (.list (.int .u32)))), (.st (.pair (.st (.pair .bool (.list (.int .u32)))) (.list (.int .u32))))]) (rs := [(.st (.pair (.st (.pair .bool (.list (.int .u32)))) (.list (.int .u32))))]) (pts := ptL) (fns := fns) (fgs := fgs) (fws := fws) (tys := tyTab) (main := fun k (x : ((Bool × (List Int)) × (List Int)) × ((Bool × (List Int)) × (List Int))) => ref03_Add.f k x.1 x.2) ok mix tyOk trivial (fun k x => by kernel_rfl) (fun k => ⟨⟨ref03_Norm.c k, ref03_positive.c k, ref02_Mul.c k, ref02_Add.c k, ref01_Mul.c k, trivial⟩, trivial, trivial⟩) k
end ref03_Add

namespace ref03_Sub
def fws : Nat → List (FuncId × FW) := fun _ => []
def ptL : List (Pt (TD [(.st (.pair (.st (.pair .bool (.list (.int .u32)))) (.list (.int .u32))))])) := []
def fns : Nat → List (FuncId × FS) := fun k => [(55, ⟨[(.st (.pair (.st (.pair .bool (.list (.int .u32)))) (.list (.int .u32))))], [(.st (.pair (.st (.pair .bool (.list (.int .u32)))) (.list (.int .u32))))], fun (x : ((Bool × (List Int)) × (List Int))) => ref03_Neg.f k x⟩), (21, ⟨[(.st (.pair (.st (.pair .bool (.list (.int .u32)))) (.list (.int .u32)))), (.st (.pair (.st (.pair .bool (.list (.int .u32)))) (.list (.int .u32))))], [(.st (.pair (.st (.pair .bool (.list (.int .u32)))) (.list (.int .u32))))], fun (x : ((Bool × (List Int)) × (List Int)) × ((Bool × (List Int)) × (List Int))) => ref03_Add.f k x.1 x.2⟩)]
def fgs : Nat → List (FuncId × FG) := fun _ => []
def fs (k : Nat) : FS := ⟨[(.st (.pair (.st (.pair .bool (.list (.int .u32)))) (.list (.int .u32)))), (.st (.pair (.st (.pair .bool (.list (.int .u32)))) (.list (.int .u32))))], [(.st (.pair (.st (.pair .bool (.list (.int .u32)))) (.list (.int .u32))))], fun (x : ((Bool × (List Int)) × (List Int)) × ((Bool × (List Int)) × (List Int))) => ref03_Sub.f k x.1 x.2⟩
theorem ok : FnOk Tryz.prog 22 9 Tryz.f22.results.toList (Tryz.f22.body.getD .skip) 2 := ⟨⟨Tryz.f22, by kernel_rfl, by kernel_rfl, by kernel_rfl, rfl, by kernel_rfl⟩, by kernel_rfl, by decide⟩
theorem c (k : Nat) : Contract Tryz.prog 22 (fs k) :=
  fn_sound (ps := [(.st (.pair (.st (.pair .bool (.list (.int .u32)))) (.list (.int .u32)))), (.st (.pair (.st (.pair .bool (.list (.int .u32)))) (.list (.int .u32))))]) (rs := [(.st (.pair (.st (.pair .bool (.list (.int .u32)))) (.list (.int .u32))))]) (pts := ptL) (fns := fns) (fgs := fgs) (fws := fws) (tys := tyTab) (main := fun k (x : ((Bool × (List Int)) × (List Int)) × ((Bool × (List Int)) × (List Int))) => ref03_Sub.f k x.1 x.2) ok mix tyOk trivial (fun k x => by kernel_rfl) (fun k => ⟨⟨ref03_Neg.c k, ref03_Add.c k, trivial⟩, trivial, trivial⟩) k
end ref03_Sub

namespace ref02_Sign
def fws : Nat → List (FuncId × FW) := fun _ => []
def ptL : List (Pt (TD [(.int .i64)])) := []
def fns : Nat → List (FuncId × FS) := fun k => [(64, ⟨[(.st (.pair .bool (.list (.int .u32))))], [(.st (.pair .bool (.list (.int .u32))))], fun (x : (Bool × (List Int))) => ref02_Norm.f k x⟩)]
def fgs : Nat → List (FuncId × FG) := fun _ => []
def fs (k : Nat) : FS := ⟨[(.st (.pair .bool (.list (.int .u32))))], [(.int .i64)], fun (x : (Bool × (List Int))) => ref02_Sign.f k x⟩
theorem ok : FnOk Tryz.prog 124 12 Tryz.f124.results.toList (Tryz.f124.body.getD .skip) 1 := ⟨⟨Tryz.f124, by kernel_rfl, by kernel_rfl, by kernel_rfl, rfl, by kernel_rfl⟩, by kernel_rfl, by decide⟩
theorem c (k : Nat) : Contract Tryz.prog 124 (fs k) :=
  fn_sound (ps := [(.st (.pair .bool (.list (.int .u32))))]) (rs := [(.int .i64)]) (pts := ptL) (fns := fns) (fgs := fgs) (fws := fws) (tys := tyTab) (main := fun k (x : (Bool × (List Int))) => ref02_Sign.f k x) ok mix tyOk trivial (fun k x => by kernel_rfl) (fun k => ⟨⟨ref02_Norm.c k, trivial⟩, trivial, trivial⟩) k
end ref02_Sign

namespace ref03_Sign
def fws : Nat → List (FuncId × FW) := fun _ => []
def ptL : List (Pt (TD [(.int .i64)])) := []
def fns : Nat → List (FuncId × FS) := fun k => [(32, ⟨[(.st (.pair (.st (.pair .bool (.list (.int .u32)))) (.list (.int .u32))))], [(.st (.pair (.st (.pair .bool (.list (.int .u32)))) (.list (.int .u32))))], fun (x : ((Bool × (List Int)) × (List Int))) => ref03_Norm.f k x⟩), (124, ⟨[(.st (.pair .bool (.list (.int .u32))))], [(.int .i64)], fun (x : (Bool × (List Int))) => ref02_Sign.f k x⟩)]
def fgs : Nat → List (FuncId × FG) := fun _ => []
def fs (k : Nat) : FS := ⟨[(.st (.pair (.st (.pair .bool (.list (.int .u32)))) (.list (.int .u32))))], [(.int .i64)], fun (x : ((Bool × (List Int)) × (List Int))) => ref03_Sign.f k x⟩
theorem ok : FnOk Tryz.prog 103 7 Tryz.f103.results.toList (Tryz.f103.body.getD .skip) 1 := ⟨⟨Tryz.f103, by kernel_rfl, by kernel_rfl, by kernel_rfl, rfl, by kernel_rfl⟩, by kernel_rfl, by decide⟩
theorem c (k : Nat) : Contract Tryz.prog 103 (fs k) :=
  fn_sound (ps := [(.st (.pair (.st (.pair .bool (.list (.int .u32)))) (.list (.int .u32))))]) (rs := [(.int .i64)]) (pts := ptL) (fns := fns) (fgs := fgs) (fws := fws) (tys := tyTab) (main := fun k (x : ((Bool × (List Int)) × (List Int))) => ref03_Sign.f k x) ok mix tyOk trivial (fun k x => by kernel_rfl) (fun k => ⟨⟨ref03_Norm.c k, ref02_Sign.c k, trivial⟩, trivial, trivial⟩) k
end ref03_Sign

namespace ref03_Cmp
def fws : Nat → List (FuncId × FW) := fun _ => []
def ptL : List (Pt (TD [(.int .i64)])) := []
def fns : Nat → List (FuncId × FS) := fun k => [(22, ⟨[(.st (.pair (.st (.pair .bool (.list (.int .u32)))) (.list (.int .u32)))), (.st (.pair (.st (.pair .bool (.list (.int .u32)))) (.list (.int .u32))))], [(.st (.pair (.st (.pair .bool (.list (.int .u32)))) (.list (.int .u32))))], fun (x : ((Bool × (List Int)) × (List Int)) × ((Bool × (List Int)) × (List Int))) => ref03_Sub.f k x.1 x.2⟩), (103, ⟨[(.st (.pair (.st (.pair .bool (.list (.int .u32)))) (.list (.int .u32))))], [(.int .i64)], fun (x : ((Bool × (List Int)) × (List Int))) => ref03_Sign.f k x⟩)]
def fgs : Nat → List (FuncId × FG) := fun _ => []
def fs (k : Nat) : FS := ⟨[(.st (.pair (.st (.pair .bool (.list (.int .u32)))) (.list (.int .u32)))), (.st (.pair (.st (.pair .bool (.list (.int .u32)))) (.list (.int .u32))))], [(.int .i64)], fun (x : ((Bool × (List Int)) × (List Int)) × ((Bool × (List Int)) × (List Int))) => ref03_Cmp.f k x.1 x.2⟩
theorem ok : FnOk Tryz.prog 68 9 Tryz.f68.results.toList (Tryz.f68.body.getD .skip) 2 := ⟨⟨Tryz.f68, by kernel_rfl, by kernel_rfl, by kernel_rfl, rfl, by kernel_rfl⟩, by kernel_rfl, by decide⟩
theorem c (k : Nat) : Contract Tryz.prog 68 (fs k) :=
  fn_sound (ps := [(.st (.pair (.st (.pair .bool (.list (.int .u32)))) (.list (.int .u32)))), (.st (.pair (.st (.pair .bool (.list (.int .u32)))) (.list (.int .u32))))]) (rs := [(.int .i64)]) (pts := ptL) (fns := fns) (fgs := fgs) (fws := fws) (tys := tyTab) (main := fun k (x : ((Bool × (List Int)) × (List Int)) × ((Bool × (List Int)) × (List Int))) => ref03_Cmp.f k x.1 x.2) ok mix tyOk trivial (fun k x => by kernel_rfl) (fun k => ⟨⟨ref03_Sub.c k, ref03_Sign.c k, trivial⟩, trivial, trivial⟩) k
end ref03_Cmp

namespace ref04_under
def fws : Nat → List (FuncId × FW) := fun _ => []
def ptL : List (Pt (TD [.bool])) := []
def fns : Nat → List (FuncId × FS) := fun k => [(68, ⟨[(.st (.pair (.st (.pair .bool (.list (.int .u32)))) (.list (.int .u32)))), (.st (.pair (.st (.pair .bool (.list (.int .u32)))) (.list (.int .u32))))], [(.int .i64)], fun (x : ((Bool × (List Int)) × (List Int)) × ((Bool × (List Int)) × (List Int))) => ref03_Cmp.f k x.1 x.2⟩)]
def fgs : Nat → List (FuncId × FG) := fun _ => []
def fs (k : Nat) : FS := ⟨[(.st (.pair (.int .i64) (.st (.pair (.st (.pair .bool (.list (.int .u32)))) (.list (.int .u32)))))), (.st (.pair (.int .i64) (.st (.pair (.st (.pair .bool (.list (.int .u32)))) (.list (.int .u32))))))], [.bool], fun (x : (Int × ((Bool × (List Int)) × (List Int))) × (Int × ((Bool × (List Int)) × (List Int)))) => ref04_under.f k x.1 x.2⟩
theorem ok : FnOk Tryz.prog 33 26 Tryz.f33.results.toList (Tryz.f33.body.getD .skip) 2 := ⟨⟨Tryz.f33, by kernel_rfl, by kernel_rfl, by kernel_rfl, rfl, by kernel_rfl⟩, by kernel_rfl, by decide⟩
theorem c (k : Nat) : Contract Tryz.prog 33 (fs k) :=
  fn_sound (ps := [(.st (.pair (.int .i64) (.st (.pair (.st (.pair .bool (.list (.int .u32)))) (.list (.int .u32)))))), (.st (.pair (.int .i64) (.st (.pair (.st (.pair .bool (.list (.int .u32)))) (.list (.int .u32))))))]) (rs := [.bool]) (pts := ptL) (fns := fns) (fgs := fgs) (fws := fws) (tys := tyTab) (main := fun k (x : (Int × ((Bool × (List Int)) × (List Int))) × (Int × ((Bool × (List Int)) × (List Int)))) => ref04_under.f k x.1 x.2) ok mix tyOk trivial (fun k x => by kernel_rfl) (fun k => ⟨⟨ref03_Cmp.c k, trivial⟩, trivial, trivial⟩) k
end ref04_under

namespace ref04_Valid
def s9 : PSig := ⟨0, [], []⟩
def fws : Nat → List (FuncId × FW) := fun _ => []
def ptL : List (Pt (TD [.bool])) := [⟨9, s9, fun k (x : Unit) => ref04_Valid.p9 k x⟩]
def fns : Nat → List (FuncId × FS) := fun k => [(36, ⟨[.flt], [(.int .u64)], fun (x : Nat) => math_Float64bits.f k x⟩), (37, ⟨[(.int .u64)], [.bool], fun (x : Int) => ref04_IsNaN.f k x⟩), (34, ⟨[.flt], [(.st (.pair (.int .i64) (.st (.pair (.st (.pair .bool (.list (.int .u32)))) (.list (.int .u32))))))], fun (x : Nat) => ref04_endOf.f k x⟩), (33, ⟨[(.st (.pair (.int .i64) (.st (.pair (.st (.pair .bool (.list (.int .u32)))) (.list (.int .u32)))))), (.st (.pair (.int .i64) (.st (.pair (.st (.pair .bool (.list (.int .u32)))) (.list (.int .u32))))))], [.bool], fun (x : (Int × ((Bool × (List Int)) × (List Int))) × (Int × ((Bool × (List Int)) × (List Int)))) => ref04_under.f k x.1 x.2⟩)]
def fgs : Nat → List (FuncId × FG) := fun _ => []
def fs (k : Nat) : FS := ⟨[(.st (.pair .flt .flt))], [.bool], fun (x : (Nat × Nat)) => ref04_Valid.f k x⟩
theorem ok : FnOk Tryz.prog 12 33 Tryz.f12.results.toList (Tryz.f12.body.getD .skip) 1 := ⟨⟨Tryz.f12, by kernel_rfl, by kernel_rfl, by kernel_rfl, rfl, by kernel_rfl⟩, by kernel_rfl, by decide⟩
theorem c (k : Nat) : Contract Tryz.prog 12 (fs k) :=
  fn_sound (ps := [(.st (.pair .flt .flt))]) (rs := [.bool]) (pts := ptL) (fns := fns) (fgs := fgs) (fws := fws) (tys := tyTab) (main := fun k (x : (Nat × Nat)) => ref04_Valid.f k x) ok mix tyOk ⟨⟨rfl, fun _ => rfl, fun k x => by kernel_rfl⟩, trivial⟩ (fun k x => by kernel_rfl) (fun k => ⟨⟨math_Float64bits.c k, ref04_IsNaN.c k, ref04_endOf.c k, ref04_under.c k, trivial⟩, trivial, trivial⟩) k
end ref04_Valid

namespace ref04_In
def fws : Nat → List (FuncId × FW) := fun _ => []
def ptL : List (Pt (TD [.bool])) := []
def fns : Nat → List (FuncId × FS) := fun k => [(32, ⟨[(.st (.pair (.st (.pair .bool (.list (.int .u32)))) (.list (.int .u32))))], [(.st (.pair (.st (.pair .bool (.list (.int .u32)))) (.list (.int .u32))))], fun (x : ((Bool × (List Int)) × (List Int))) => ref03_Norm.f k x⟩), (12, ⟨[(.st (.pair .flt .flt))], [.bool], fun (x : (Nat × Nat)) => ref04_Valid.f k x⟩), (34, ⟨[.flt], [(.st (.pair (.int .i64) (.st (.pair (.st (.pair .bool (.list (.int .u32)))) (.list (.int .u32))))))], fun (x : Nat) => ref04_endOf.f k x⟩), (33, ⟨[(.st (.pair (.int .i64) (.st (.pair (.st (.pair .bool (.list (.int .u32)))) (.list (.int .u32)))))), (.st (.pair (.int .i64) (.st (.pair (.st (.pair .bool (.list (.int .u32)))) (.list (.int .u32))))))], [.bool], fun (x : (Int × ((Bool × (List Int)) × (List Int))) × (Int × ((Bool × (List Int)) × (List Int)))) => ref04_under.f k x.1 x.2⟩)]
def fgs : Nat → List (FuncId × FG) := fun _ => []
def fs (k : Nat) : FS := ⟨[(.st (.pair (.st (.pair .bool (.list (.int .u32)))) (.list (.int .u32)))), (.st (.pair .flt .flt))], [.bool], fun (x : ((Bool × (List Int)) × (List Int)) × (Nat × Nat)) => ref04_In.f k x.1 x.2⟩
theorem ok : FnOk Tryz.prog 10 27 Tryz.f10.results.toList (Tryz.f10.body.getD .skip) 2 := ⟨⟨Tryz.f10, by kernel_rfl, by kernel_rfl, by kernel_rfl, rfl, by kernel_rfl⟩, by kernel_rfl, by decide⟩
theorem c (k : Nat) : Contract Tryz.prog 10 (fs k) :=
  fn_sound (ps := [(.st (.pair (.st (.pair .bool (.list (.int .u32)))) (.list (.int .u32)))), (.st (.pair .flt .flt))]) (rs := [.bool]) (pts := ptL) (fns := fns) (fgs := fgs) (fws := fws) (tys := tyTab) (main := fun k (x : ((Bool × (List Int)) × (List Int)) × (Nat × Nat)) => ref04_In.f k x.1 x.2) ok mix tyOk trivial (fun k x => by kernel_rfl) (fun k => ⟨⟨ref03_Norm.c k, ref04_Valid.c k, ref04_endOf.c k, ref04_under.c k, trivial⟩, trivial, trivial⟩) k
end ref04_In


namespace approx_both
def fws : Nat → List (FuncId × FW) := fun _ => []
def ptL : List (Pt (TD [.bool])) := []
def fns : Nat → List (FuncId × FS) := fun k => [(11, ⟨[(.st (.pair .flt .flt))], [.bool], fun (x : (Nat × Nat)) => approx_Valid.f k x⟩)]
def fgs : Nat → List (FuncId × FG) := fun _ => []
def fs (k : Nat) : FS := ⟨[(.st (.pair .flt .flt)), (.st (.pair .flt .flt))], [.bool], fun (x : (Nat × Nat) × (Nat × Nat)) => approx_both.f k x.1 x.2⟩
theorem ok : FnOk Tryz.prog 38 11 Tryz.f38.results.toList (Tryz.f38.body.getD .skip) 2 := ⟨⟨Tryz.f38, by kernel_rfl, by kernel_rfl, by kernel_rfl, rfl, by kernel_rfl⟩, by kernel_rfl, by decide⟩
theorem c (k : Nat) : Contract Tryz.prog 38 (fs k) :=
  fn_sound (ps := [(.st (.pair .flt .flt)), (.st (.pair .flt .flt))]) (rs := [.bool]) (pts := ptL) (fns := fns) (fgs := fgs) (fws := fws) (tys := tyTab) (main := fun k (x : (Nat × Nat) × (Nat × Nat)) => approx_both.f k x.1 x.2) ok mix tyOk trivial (fun k x => by kernel_rfl) (fun k => ⟨⟨approx_Valid.c k, trivial⟩, trivial, trivial⟩) k
end approx_both

namespace ratio_Add
def fws : Nat → List (FuncId × FW) := fun _ => []
def ptL : List (Pt (TD [(.st (.pair (.st (.pair .bool (.list (.int .u32)))) (.list (.int .u32))))])) := []
def fns : Nat → List (FuncId × FS) := fun k => [(89, ⟨[(.st (.pair (.st (.pair .bool (.list (.int .u32)))) (.list (.int .u32))))], [(.st (.pair (.st (.pair .bool (.list (.int .u32)))) (.list (.int .u32))))], fun (x : ((Bool × (List Int)) × (List Int))) => ratio_Norm.f k x⟩), (94, ⟨[(.st (.pair .bool (.list (.int .u32)))), (.st (.pair .bool (.list (.int .u32))))], [(.st (.pair .bool (.list (.int .u32))))], fun (x : (Bool × (List Int)) × (Bool × (List Int))) => whole_Mul.f k x.1 x.2⟩), (105, ⟨[(.st (.pair .bool (.list (.int .u32)))), (.st (.pair .bool (.list (.int .u32))))], [(.st (.pair .bool (.list (.int .u32))))], fun (x : (Bool × (List Int)) × (Bool × (List Int))) => whole_Add.f k x.1 x.2⟩), (107, ⟨[(.list (.int .u32)), (.list (.int .u32))], [(.list (.int .u32))], fun (x : (List Int) × (List Int)) => nat_Mul.f k x.1 x.2⟩), (106, ⟨[(.st (.pair .bool (.list (.int .u32)))), (.list (.int .u32))], [(.st (.pair (.st (.pair .bool (.list (.int .u32)))) (.list (.int .u32))))], fun (x : (Bool × (List Int)) × (List Int)) => ratio_made.f k x.1 x.2⟩)]
def fgs : Nat → List (FuncId × FG) := fun _ => []
def fs (k : Nat) : FS := ⟨[(.st (.pair (.st (.pair .bool (.list (.int .u32)))) (.list (.int .u32)))), (.st (.pair (.st (.pair .bool (.list (.int .u32)))) (.list (.int .u32))))], [(.st (.pair (.st (.pair .bool (.list (.int .u32)))) (.list (.int .u32))))], fun (x : ((Bool × (List Int)) × (List Int)) × ((Bool × (List Int)) × (List Int))) => ratio_Add.f k x.1 x.2⟩
theorem ok : FnOk Tryz.prog 73 30 Tryz.f73.results.toList (Tryz.f73.body.getD .skip) 2 := ⟨⟨Tryz.f73, by kernel_rfl, by kernel_rfl, by kernel_rfl, rfl, by kernel_rfl⟩, by kernel_rfl, by decide⟩
theorem c (k : Nat) : Contract Tryz.prog 73 (fs k) :=
  fn_sound (ps := [(.st (.pair (.st (.pair .bool (.list (.int .u32)))) (.list (.int .u32)))), (.st (.pair (.st (.pair .bool (.list (.int .u32)))) (.list (.int .u32))))]) (rs := [(.st (.pair (.st (.pair .bool (.list (.int .u32)))) (.list (.int .u32))))]) (pts := ptL) (fns := fns) (fgs := fgs) (fws := fws) (tys := tyTab) (main := fun k (x : ((Bool × (List Int)) × (List Int)) × ((Bool × (List Int)) × (List Int))) => ratio_Add.f k x.1 x.2) ok mix tyOk trivial (fun k x => by kernel_rfl) (fun k => ⟨⟨ratio_Norm.c k, whole_Mul.c k, whole_Add.c k, nat_Mul.c k, ratio_made.c k, trivial⟩, trivial, trivial⟩) k
end ratio_Add

namespace approx_add
def fws : Nat → List (FuncId × FW) := fun _ => []
def ptL : List (Pt (TD [(.st (.pair (.int .i64) (.st (.pair (.st (.pair .bool (.list (.int .u32)))) (.list (.int .u32))))))])) := []
def fns : Nat → List (FuncId × FS) := fun k => [(73, ⟨[(.st (.pair (.st (.pair .bool (.list (.int .u32)))) (.list (.int .u32)))), (.st (.pair (.st (.pair .bool (.list (.int .u32)))) (.list (.int .u32))))], [(.st (.pair (.st (.pair .bool (.list (.int .u32)))) (.list (.int .u32))))], fun (x : ((Bool × (List Int)) × (List Int)) × ((Bool × (List Int)) × (List Int))) => ratio_Add.f k x.1 x.2⟩)]
def fgs : Nat → List (FuncId × FG) := fun _ => []
def fs (k : Nat) : FS := ⟨[(.st (.pair (.int .i64) (.st (.pair (.st (.pair .bool (.list (.int .u32)))) (.list (.int .u32)))))), (.st (.pair (.int .i64) (.st (.pair (.st (.pair .bool (.list (.int .u32)))) (.list (.int .u32))))))], [(.st (.pair (.int .i64) (.st (.pair (.st (.pair .bool (.list (.int .u32)))) (.list (.int .u32))))))], fun (x : (Int × ((Bool × (List Int)) × (List Int))) × (Int × ((Bool × (List Int)) × (List Int)))) => approx_add.f k x.1 x.2⟩
theorem ok : FnOk Tryz.prog 40 19 Tryz.f40.results.toList (Tryz.f40.body.getD .skip) 2 := ⟨⟨Tryz.f40, by kernel_rfl, by kernel_rfl, by kernel_rfl, rfl, by kernel_rfl⟩, by kernel_rfl, by decide⟩
theorem c (k : Nat) : Contract Tryz.prog 40 (fs k) :=
  fn_sound (ps := [(.st (.pair (.int .i64) (.st (.pair (.st (.pair .bool (.list (.int .u32)))) (.list (.int .u32)))))), (.st (.pair (.int .i64) (.st (.pair (.st (.pair .bool (.list (.int .u32)))) (.list (.int .u32))))))]) (rs := [(.st (.pair (.int .i64) (.st (.pair (.st (.pair .bool (.list (.int .u32)))) (.list (.int .u32))))))]) (pts := ptL) (fns := fns) (fgs := fgs) (fws := fws) (tys := tyTab) (main := fun k (x : (Int × ((Bool × (List Int)) × (List Int))) × (Int × ((Bool × (List Int)) × (List Int)))) => approx_add.f k x.1 x.2) ok mix tyOk trivial (fun k x => by kernel_rfl) (fun k => ⟨⟨ratio_Add.c k, trivial⟩, trivial, trivial⟩) k
end approx_add

namespace math_Inf
def s11 : PSig := ⟨0, [], [(3, .val (.int .u64))]⟩
def fws : Nat → List (FuncId × FW) := fun _ => []
def ptL : List (Pt (TD [.flt])) := [⟨11, s11, fun k (x : Int) => math_Inf.p11 k x⟩]
def fns : Nat → List (FuncId × FS) := fun k => [(59, ⟨[(.int .u64)], [.flt], fun (x : Int) => math_Float64frombits.f k x⟩)]
def fgs : Nat → List (FuncId × FG) := fun _ => []
def fs (k : Nat) : FS := ⟨[(.int .i64)], [.flt], fun (x : Int) => math_Inf.f k x⟩
theorem ok : FnOk Tryz.prog 72 8 Tryz.f72.results.toList (Tryz.f72.body.getD .skip) 1 := ⟨⟨Tryz.f72, by kernel_rfl, by kernel_rfl, by kernel_rfl, rfl, by kernel_rfl⟩, by kernel_rfl, by decide⟩
theorem c (k : Nat) : Contract Tryz.prog 72 (fs k) :=
  fn_sound (ps := [(.int .i64)]) (rs := [.flt]) (pts := ptL) (fns := fns) (fgs := fgs) (fws := fws) (tys := tyTab) (main := fun k (x : Int) => math_Inf.f k x) ok mix tyOk ⟨⟨rfl, fun _ => rfl, fun k x => by kernel_rfl⟩, trivial⟩ (fun k x => by kernel_rfl) (fun k => ⟨⟨math_Float64frombits.c k, trivial⟩, trivial, trivial⟩) k
end math_Inf

namespace approx_span
def s0 : PSig := ⟨0, [(30, (.st (.pair .flt .flt)), true), (47, (.st (.pair (.int .i64) (.st (.pair (.st (.pair .bool (.list (.int .u32)))) (.list (.int .u32)))))), true), (47, (.st (.pair (.int .i64) (.st (.pair (.st (.pair .bool (.list (.int .u32)))) (.list (.int .u32)))))), true)], [(2, .ptr 0 []), (3, .ptr 1 []), (4, .ptr 2 []), (14, .val (.list (.st (.pair (.int .i64) (.st (.pair (.st (.pair .bool (.list (.int .u32)))) (.list (.int .u32)))))))), (15, .val (.int .i64)), (16, .val (.int .i64))]⟩
def s15 : PSig := ⟨0, [(30, (.st (.pair .flt .flt)), true), (47, (.st (.pair (.int .i64) (.st (.pair (.st (.pair .bool (.list (.int .u32)))) (.list (.int .u32)))))), true), (47, (.st (.pair (.int .i64) (.st (.pair (.st (.pair .bool (.list (.int .u32)))) (.list (.int .u32)))))), true), (47, (.st (.pair (.int .i64) (.st (.pair (.st (.pair .bool (.list (.int .u32)))) (.list (.int .u32)))))), true)], [(2, .ptr 0 []), (3, .ptr 1 []), (4, .ptr 2 []), (6, .ptr 3 []), (14, .val (.list (.st (.pair (.int .i64) (.st (.pair (.st (.pair .bool (.list (.int .u32)))) (.list (.int .u32)))))))), (15, .val (.int .i64)), (16, .val (.int .i64))]⟩
def s27 : PSig := ⟨0, [(30, (.st (.pair .flt .flt)), true), (47, (.st (.pair (.int .i64) (.st (.pair (.st (.pair .bool (.list (.int .u32)))) (.list (.int .u32)))))), true), (30, (.st (.pair .flt .flt)), true)], [(2, .ptr 0 []), (4, .ptr 1 []), (7, .ptr 2 [])]⟩
def s19 : PSig := ⟨0, [(30, (.st (.pair .flt .flt)), true), (47, (.st (.pair (.int .i64) (.st (.pair (.st (.pair .bool (.list (.int .u32)))) (.list (.int .u32)))))), true), (47, (.st (.pair (.int .i64) (.st (.pair (.st (.pair .bool (.list (.int .u32)))) (.list (.int .u32)))))), true)], [(2, .ptr 0 []), (3, .ptr 1 []), (4, .ptr 2 []), (14, .val (.list (.st (.pair (.int .i64) (.st (.pair (.st (.pair .bool (.list (.int .u32)))) (.list (.int .u32)))))))), (15, .val (.int .i64)), (16, .val (.int .i64))]⟩
def s31 : PSig := ⟨0, [(30, (.st (.pair .flt .flt)), true), (30, (.st (.pair .flt .flt)), true)], [(2, .ptr 0 []), (7, .ptr 1 [])]⟩
def fws : Nat → List (FuncId × FW) := fun _ => []
def ptL : List (Pt (TD [(.st (.pair .flt .flt))])) := [⟨0, s0, fun k (x : (Nat × Nat) × (Int × ((Bool × (List Int)) × (List Int))) × (Int × ((Bool × (List Int)) × (List Int))) × (List (Int × ((Bool × (List Int)) × (List Int)))) × Int × Int) => approx_span.p0 k x.1 x.2.1 x.2.2.1 x.2.2.2.1 x.2.2.2.2.1 x.2.2.2.2.2⟩, ⟨15, s15, fun k (x : (Nat × Nat) × (Int × ((Bool × (List Int)) × (List Int))) × (Int × ((Bool × (List Int)) × (List Int))) × (Int × ((Bool × (List Int)) × (List Int))) × (List (Int × ((Bool × (List Int)) × (List Int)))) × Int × Int) => approx_span.p15 k x.1 x.2.1 x.2.2.1 x.2.2.2.1 x.2.2.2.2.1 x.2.2.2.2.2.1 x.2.2.2.2.2.2⟩, ⟨27, s27, fun k (x : (Nat × Nat) × (Int × ((Bool × (List Int)) × (List Int))) × (Nat × Nat)) => approx_span.p27 k x.1 x.2.1 x.2.2⟩, ⟨19, s19, fun k (x : (Nat × Nat) × (Int × ((Bool × (List Int)) × (List Int))) × (Int × ((Bool × (List Int)) × (List Int))) × (List (Int × ((Bool × (List Int)) × (List Int)))) × Int × Int) => approx_span.p19 k x.1 x.2.1 x.2.2.1 x.2.2.2.1 x.2.2.2.2.1 x.2.2.2.2.2⟩, ⟨31, s31, fun k (x : (Nat × Nat) × (Nat × Nat)) => approx_span.p31 k x.1 x.2⟩]
def fns : Nat → List (FuncId × FS) := fun k => [(30, ⟨[(.st (.pair (.int .i64) (.st (.pair (.st (.pair .bool (.list (.int .u32)))) (.list (.int .u32)))))), (.st (.pair (.int .i64) (.st (.pair (.st (.pair .bool (.list (.int .u32)))) (.list (.int .u32))))))], [(.int .i64)], fun (x : (Int × ((Bool × (List Int)) × (List Int))) × (Int × ((Bool × (List Int)) × (List Int)))) => approx_cmp.f k x.1 x.2⟩), (72, ⟨[(.int .i64)], [.flt], fun (x : Int) => math_Inf.f k x⟩), (25, ⟨[(.st (.pair (.st (.pair .bool (.list (.int .u32)))) (.list (.int .u32))))], [.flt], fun (x : ((Bool × (List Int)) × (List Int))) => approx_Down.f k x⟩), (26, ⟨[(.st (.pair (.st (.pair .bool (.list (.int .u32)))) (.list (.int .u32))))], [.flt], fun (x : ((Bool × (List Int)) × (List Int))) => approx_Up.f k x⟩)]
def fgs : Nat → List (FuncId × FG) := fun _ => []
def fs (k : Nat) : FS := ⟨[(.list (.st (.pair (.int .i64) (.st (.pair (.st (.pair .bool (.list (.int .u32)))) (.list (.int .u32)))))))], [(.st (.pair .flt .flt))], fun (x : (List (Int × ((Bool × (List Int)) × (List Int))))) => approx_span.f k x⟩
theorem ok : FnOk Tryz.prog 39 53 Tryz.f39.results.toList (Tryz.f39.body.getD .skip) 1 := ⟨⟨Tryz.f39, by kernel_rfl, by kernel_rfl, by kernel_rfl, rfl, by kernel_rfl⟩, by kernel_rfl, by decide⟩
theorem c (k : Nat) : Contract Tryz.prog 39 (fs k) :=
  fn_sound (ps := [(.list (.st (.pair (.int .i64) (.st (.pair (.st (.pair .bool (.list (.int .u32)))) (.list (.int .u32)))))))]) (rs := [(.st (.pair .flt .flt))]) (pts := ptL) (fns := fns) (fgs := fgs) (fws := fws) (tys := tyTab) (main := fun k (x : (List (Int × ((Bool × (List Int)) × (List Int))))) => approx_span.f k x) ok mix tyOk ⟨⟨rfl, fun _ => rfl, fun k x => by kernel_rfl⟩, ⟨rfl, fun _ => rfl, fun k x => by kernel_rfl⟩, ⟨rfl, fun _ => rfl, fun k x => by kernel_rfl⟩, ⟨rfl, fun _ => rfl, fun k x => by kernel_rfl⟩, ⟨rfl, fun _ => rfl, fun k x => by kernel_rfl⟩, trivial⟩ (fun k x => by kernel_rfl) (fun k => ⟨⟨approx_cmp.c k, math_Inf.c k, approx_Down.c k, approx_Up.c k, trivial⟩, trivial, trivial⟩) k
end approx_span

namespace approx_Sum
def fws : Nat → List (FuncId × FW) := fun _ => []
def ptL : List (Pt (TD [(.st (.pair .flt .flt)), (.int .i64)])) := []
def fns : Nat → List (FuncId × FS) := fun k => [(38, ⟨[(.st (.pair .flt .flt)), (.st (.pair .flt .flt))], [.bool], fun (x : (Nat × Nat) × (Nat × Nat)) => approx_both.f k x.1 x.2⟩), (31, ⟨[.flt], [(.st (.pair (.int .i64) (.st (.pair (.st (.pair .bool (.list (.int .u32)))) (.list (.int .u32))))))], fun (x : Nat) => approx_endOf.f k x⟩), (40, ⟨[(.st (.pair (.int .i64) (.st (.pair (.st (.pair .bool (.list (.int .u32)))) (.list (.int .u32)))))), (.st (.pair (.int .i64) (.st (.pair (.st (.pair .bool (.list (.int .u32)))) (.list (.int .u32))))))], [(.st (.pair (.int .i64) (.st (.pair (.st (.pair .bool (.list (.int .u32)))) (.list (.int .u32))))))], fun (x : (Int × ((Bool × (List Int)) × (List Int))) × (Int × ((Bool × (List Int)) × (List Int)))) => approx_add.f k x.1 x.2⟩), (39, ⟨[(.list (.st (.pair (.int .i64) (.st (.pair (.st (.pair .bool (.list (.int .u32)))) (.list (.int .u32)))))))], [(.st (.pair .flt .flt))], fun (x : (List (Int × ((Bool × (List Int)) × (List Int))))) => approx_span.f k x⟩)]
def fgs : Nat → List (FuncId × FG) := fun _ => []
def fs (k : Nat) : FS := ⟨[(.st (.pair .flt .flt)), (.st (.pair .flt .flt))], [(.st (.pair .flt .flt)), (.int .i64)], fun (x : (Nat × Nat) × (Nat × Nat)) => approx_Sum.f k x.1 x.2⟩
theorem ok : FnOk Tryz.prog 13 27 Tryz.f13.results.toList (Tryz.f13.body.getD .skip) 2 := ⟨⟨Tryz.f13, by kernel_rfl, by kernel_rfl, by kernel_rfl, rfl, by kernel_rfl⟩, by kernel_rfl, by decide⟩
theorem c (k : Nat) : Contract Tryz.prog 13 (fs k) :=
  fn_sound (ps := [(.st (.pair .flt .flt)), (.st (.pair .flt .flt))]) (rs := [(.st (.pair .flt .flt)), (.int .i64)]) (pts := ptL) (fns := fns) (fgs := fgs) (fws := fws) (tys := tyTab) (main := fun k (x : (Nat × Nat) × (Nat × Nat)) => approx_Sum.f k x.1 x.2) ok mix tyOk trivial (fun k x => by kernel_rfl) (fun k => ⟨⟨approx_both.c k, approx_endOf.c k, approx_add.c k, approx_span.c k, trivial⟩, trivial, trivial⟩) k
end approx_Sum

namespace ref04_plus
def fws : Nat → List (FuncId × FW) := fun _ => []
def ptL : List (Pt (TD [(.st (.pair (.int .i64) (.st (.pair (.st (.pair .bool (.list (.int .u32)))) (.list (.int .u32))))))])) := []
def fns : Nat → List (FuncId × FS) := fun k => [(21, ⟨[(.st (.pair (.st (.pair .bool (.list (.int .u32)))) (.list (.int .u32)))), (.st (.pair (.st (.pair .bool (.list (.int .u32)))) (.list (.int .u32))))], [(.st (.pair (.st (.pair .bool (.list (.int .u32)))) (.list (.int .u32))))], fun (x : ((Bool × (List Int)) × (List Int)) × ((Bool × (List Int)) × (List Int))) => ref03_Add.f k x.1 x.2⟩)]
def fgs : Nat → List (FuncId × FG) := fun _ => []
def fs (k : Nat) : FS := ⟨[(.st (.pair (.int .i64) (.st (.pair (.st (.pair .bool (.list (.int .u32)))) (.list (.int .u32)))))), (.st (.pair (.int .i64) (.st (.pair (.st (.pair .bool (.list (.int .u32)))) (.list (.int .u32))))))], [(.st (.pair (.int .i64) (.st (.pair (.st (.pair .bool (.list (.int .u32)))) (.list (.int .u32))))))], fun (x : (Int × ((Bool × (List Int)) × (List Int))) × (Int × ((Bool × (List Int)) × (List Int)))) => ref04_plus.f k x.1 x.2⟩
theorem ok : FnOk Tryz.prog 41 19 Tryz.f41.results.toList (Tryz.f41.body.getD .skip) 2 := ⟨⟨Tryz.f41, by kernel_rfl, by kernel_rfl, by kernel_rfl, rfl, by kernel_rfl⟩, by kernel_rfl, by decide⟩
theorem c (k : Nat) : Contract Tryz.prog 41 (fs k) :=
  fn_sound (ps := [(.st (.pair (.int .i64) (.st (.pair (.st (.pair .bool (.list (.int .u32)))) (.list (.int .u32)))))), (.st (.pair (.int .i64) (.st (.pair (.st (.pair .bool (.list (.int .u32)))) (.list (.int .u32))))))]) (rs := [(.st (.pair (.int .i64) (.st (.pair (.st (.pair .bool (.list (.int .u32)))) (.list (.int .u32))))))]) (pts := ptL) (fns := fns) (fgs := fgs) (fws := fws) (tys := tyTab) (main := fun k (x : (Int × ((Bool × (List Int)) × (List Int))) × (Int × ((Bool × (List Int)) × (List Int)))) => ref04_plus.f k x.1 x.2) ok mix tyOk trivial (fun k x => by kernel_rfl) (fun k => ⟨⟨ref03_Add.c k, trivial⟩, trivial, trivial⟩) k
end ref04_plus

namespace ref04_float
def fws : Nat → List (FuncId × FW) := fun _ => []
def ptL : List (Pt (TD [.flt])) := []
def fns : Nat → List (FuncId × FS) := fun k => [(59, ⟨[(.int .u64)], [.flt], fun (x : Int) => math_Float64frombits.f k x⟩), (29, ⟨[(.st (.pair (.st (.pair .bool (.list (.int .u32)))) (.list (.int .u32))))], [.flt], fun (x : ((Bool × (List Int)) × (List Int))) => ref04_Up.f k x⟩), (28, ⟨[(.st (.pair (.st (.pair .bool (.list (.int .u32)))) (.list (.int .u32))))], [.flt], fun (x : ((Bool × (List Int)) × (List Int))) => ref04_Down.f k x⟩)]
def fgs : Nat → List (FuncId × FG) := fun _ => []
def fs (k : Nat) : FS := ⟨[(.st (.pair (.int .i64) (.st (.pair (.st (.pair .bool (.list (.int .u32)))) (.list (.int .u32)))))), .bool], [.flt], fun (x : (Int × ((Bool × (List Int)) × (List Int))) × Bool) => ref04_float.f k x.1 x.2⟩
theorem ok : FnOk Tryz.prog 42 23 Tryz.f42.results.toList (Tryz.f42.body.getD .skip) 2 := ⟨⟨Tryz.f42, by kernel_rfl, by kernel_rfl, by kernel_rfl, rfl, by kernel_rfl⟩, by kernel_rfl, by decide⟩
theorem c (k : Nat) : Contract Tryz.prog 42 (fs k) :=
  fn_sound (ps := [(.st (.pair (.int .i64) (.st (.pair (.st (.pair .bool (.list (.int .u32)))) (.list (.int .u32)))))), .bool]) (rs := [.flt]) (pts := ptL) (fns := fns) (fgs := fgs) (fws := fws) (tys := tyTab) (main := fun k (x : (Int × ((Bool × (List Int)) × (List Int))) × Bool) => ref04_float.f k x.1 x.2) ok mix tyOk trivial (fun k x => by kernel_rfl) (fun k => ⟨⟨math_Float64frombits.c k, ref04_Up.c k, ref04_Down.c k, trivial⟩, trivial, trivial⟩) k
end ref04_float

namespace ref04_Sum
def s5 : PSig := ⟨0, [(30, (.st (.pair .flt .flt)), true)], [(4, .ptr 0 [])]⟩
def fws : Nat → List (FuncId × FW) := fun _ => []
def ptL : List (Pt (TD [(.st (.pair .flt .flt)), (.int .i64)])) := [⟨5, s5, fun k (x : (Nat × Nat)) => ref04_Sum.p5 k x⟩]
def fns : Nat → List (FuncId × FS) := fun k => [(12, ⟨[(.st (.pair .flt .flt))], [.bool], fun (x : (Nat × Nat)) => ref04_Valid.f k x⟩), (34, ⟨[.flt], [(.st (.pair (.int .i64) (.st (.pair (.st (.pair .bool (.list (.int .u32)))) (.list (.int .u32))))))], fun (x : Nat) => ref04_endOf.f k x⟩), (41, ⟨[(.st (.pair (.int .i64) (.st (.pair (.st (.pair .bool (.list (.int .u32)))) (.list (.int .u32)))))), (.st (.pair (.int .i64) (.st (.pair (.st (.pair .bool (.list (.int .u32)))) (.list (.int .u32))))))], [(.st (.pair (.int .i64) (.st (.pair (.st (.pair .bool (.list (.int .u32)))) (.list (.int .u32))))))], fun (x : (Int × ((Bool × (List Int)) × (List Int))) × (Int × ((Bool × (List Int)) × (List Int)))) => ref04_plus.f k x.1 x.2⟩), (42, ⟨[(.st (.pair (.int .i64) (.st (.pair (.st (.pair .bool (.list (.int .u32)))) (.list (.int .u32)))))), .bool], [.flt], fun (x : (Int × ((Bool × (List Int)) × (List Int))) × Bool) => ref04_float.f k x.1 x.2⟩)]
def fgs : Nat → List (FuncId × FG) := fun _ => []
def fs (k : Nat) : FS := ⟨[(.st (.pair .flt .flt)), (.st (.pair .flt .flt))], [(.st (.pair .flt .flt)), (.int .i64)], fun (x : (Nat × Nat) × (Nat × Nat)) => ref04_Sum.f k x.1 x.2⟩
theorem ok : FnOk Tryz.prog 14 36 Tryz.f14.results.toList (Tryz.f14.body.getD .skip) 2 := ⟨⟨Tryz.f14, by kernel_rfl, by kernel_rfl, by kernel_rfl, rfl, by kernel_rfl⟩, by kernel_rfl, by decide⟩
theorem c (k : Nat) : Contract Tryz.prog 14 (fs k) :=
  fn_sound (ps := [(.st (.pair .flt .flt)), (.st (.pair .flt .flt))]) (rs := [(.st (.pair .flt .flt)), (.int .i64)]) (pts := ptL) (fns := fns) (fgs := fgs) (fws := fws) (tys := tyTab) (main := fun k (x : (Nat × Nat) × (Nat × Nat)) => ref04_Sum.f k x.1 x.2) ok mix tyOk ⟨⟨rfl, fun _ => rfl, fun k x => by kernel_rfl⟩, trivial⟩ (fun k x => by kernel_rfl) (fun k => ⟨⟨ref04_Valid.c k, ref04_endOf.c k, ref04_plus.c k, ref04_float.c k, trivial⟩, trivial, trivial⟩) k
end ref04_Sum

namespace approx_neg
def fws : Nat → List (FuncId × FW) := fun _ => []
def ptL : List (Pt (TD [(.st (.pair (.int .i64) (.st (.pair (.st (.pair .bool (.list (.int .u32)))) (.list (.int .u32))))))])) := []
def fns : Nat → List (FuncId × FS) := fun k => [(74, ⟨[(.st (.pair (.st (.pair .bool (.list (.int .u32)))) (.list (.int .u32))))], [(.st (.pair (.st (.pair .bool (.list (.int .u32)))) (.list (.int .u32))))], fun (x : ((Bool × (List Int)) × (List Int))) => ratio_Neg.f k x⟩)]
def fgs : Nat → List (FuncId × FG) := fun _ => []
def fs (k : Nat) : FS := ⟨[(.st (.pair (.int .i64) (.st (.pair (.st (.pair .bool (.list (.int .u32)))) (.list (.int .u32))))))], [(.st (.pair (.int .i64) (.st (.pair (.st (.pair .bool (.list (.int .u32)))) (.list (.int .u32))))))], fun (x : (Int × ((Bool × (List Int)) × (List Int)))) => approx_neg.f k x⟩
theorem ok : FnOk Tryz.prog 43 10 Tryz.f43.results.toList (Tryz.f43.body.getD .skip) 1 := ⟨⟨Tryz.f43, by kernel_rfl, by kernel_rfl, by kernel_rfl, rfl, by kernel_rfl⟩, by kernel_rfl, by decide⟩
theorem c (k : Nat) : Contract Tryz.prog 43 (fs k) :=
  fn_sound (ps := [(.st (.pair (.int .i64) (.st (.pair (.st (.pair .bool (.list (.int .u32)))) (.list (.int .u32))))))]) (rs := [(.st (.pair (.int .i64) (.st (.pair (.st (.pair .bool (.list (.int .u32)))) (.list (.int .u32))))))]) (pts := ptL) (fns := fns) (fgs := fgs) (fws := fws) (tys := tyTab) (main := fun k (x : (Int × ((Bool × (List Int)) × (List Int)))) => approx_neg.f k x) ok mix tyOk trivial (fun k x => by kernel_rfl) (fun k => ⟨⟨ratio_Neg.c k, trivial⟩, trivial, trivial⟩) k
end approx_neg

namespace approx_Diff
def fws : Nat → List (FuncId × FW) := fun _ => []
def ptL : List (Pt (TD [(.st (.pair .flt .flt)), (.int .i64)])) := []
def fns : Nat → List (FuncId × FS) := fun k => [(38, ⟨[(.st (.pair .flt .flt)), (.st (.pair .flt .flt))], [.bool], fun (x : (Nat × Nat) × (Nat × Nat)) => approx_both.f k x.1 x.2⟩), (31, ⟨[.flt], [(.st (.pair (.int .i64) (.st (.pair (.st (.pair .bool (.list (.int .u32)))) (.list (.int .u32))))))], fun (x : Nat) => approx_endOf.f k x⟩), (43, ⟨[(.st (.pair (.int .i64) (.st (.pair (.st (.pair .bool (.list (.int .u32)))) (.list (.int .u32))))))], [(.st (.pair (.int .i64) (.st (.pair (.st (.pair .bool (.list (.int .u32)))) (.list (.int .u32))))))], fun (x : (Int × ((Bool × (List Int)) × (List Int)))) => approx_neg.f k x⟩), (40, ⟨[(.st (.pair (.int .i64) (.st (.pair (.st (.pair .bool (.list (.int .u32)))) (.list (.int .u32)))))), (.st (.pair (.int .i64) (.st (.pair (.st (.pair .bool (.list (.int .u32)))) (.list (.int .u32))))))], [(.st (.pair (.int .i64) (.st (.pair (.st (.pair .bool (.list (.int .u32)))) (.list (.int .u32))))))], fun (x : (Int × ((Bool × (List Int)) × (List Int))) × (Int × ((Bool × (List Int)) × (List Int)))) => approx_add.f k x.1 x.2⟩), (39, ⟨[(.list (.st (.pair (.int .i64) (.st (.pair (.st (.pair .bool (.list (.int .u32)))) (.list (.int .u32)))))))], [(.st (.pair .flt .flt))], fun (x : (List (Int × ((Bool × (List Int)) × (List Int))))) => approx_span.f k x⟩)]
def fgs : Nat → List (FuncId × FG) := fun _ => []
def fs (k : Nat) : FS := ⟨[(.st (.pair .flt .flt)), (.st (.pair .flt .flt))], [(.st (.pair .flt .flt)), (.int .i64)], fun (x : (Nat × Nat) × (Nat × Nat)) => approx_Diff.f k x.1 x.2⟩
theorem ok : FnOk Tryz.prog 15 29 Tryz.f15.results.toList (Tryz.f15.body.getD .skip) 2 := ⟨⟨Tryz.f15, by kernel_rfl, by kernel_rfl, by kernel_rfl, rfl, by kernel_rfl⟩, by kernel_rfl, by decide⟩
theorem c (k : Nat) : Contract Tryz.prog 15 (fs k) :=
  fn_sound (ps := [(.st (.pair .flt .flt)), (.st (.pair .flt .flt))]) (rs := [(.st (.pair .flt .flt)), (.int .i64)]) (pts := ptL) (fns := fns) (fgs := fgs) (fws := fws) (tys := tyTab) (main := fun k (x : (Nat × Nat) × (Nat × Nat)) => approx_Diff.f k x.1 x.2) ok mix tyOk trivial (fun k x => by kernel_rfl) (fun k => ⟨⟨approx_both.c k, approx_endOf.c k, approx_neg.c k, approx_add.c k, approx_span.c k, trivial⟩, trivial, trivial⟩) k
end approx_Diff

namespace ref04_minus
def fws : Nat → List (FuncId × FW) := fun _ => []
def ptL : List (Pt (TD [(.st (.pair (.int .i64) (.st (.pair (.st (.pair .bool (.list (.int .u32)))) (.list (.int .u32))))))])) := []
def fns : Nat → List (FuncId × FS) := fun k => [(55, ⟨[(.st (.pair (.st (.pair .bool (.list (.int .u32)))) (.list (.int .u32))))], [(.st (.pair (.st (.pair .bool (.list (.int .u32)))) (.list (.int .u32))))], fun (x : ((Bool × (List Int)) × (List Int))) => ref03_Neg.f k x⟩)]
def fgs : Nat → List (FuncId × FG) := fun _ => []
def fs (k : Nat) : FS := ⟨[(.st (.pair (.int .i64) (.st (.pair (.st (.pair .bool (.list (.int .u32)))) (.list (.int .u32))))))], [(.st (.pair (.int .i64) (.st (.pair (.st (.pair .bool (.list (.int .u32)))) (.list (.int .u32))))))], fun (x : (Int × ((Bool × (List Int)) × (List Int)))) => ref04_minus.f k x⟩
theorem ok : FnOk Tryz.prog 44 10 Tryz.f44.results.toList (Tryz.f44.body.getD .skip) 1 := ⟨⟨Tryz.f44, by kernel_rfl, by kernel_rfl, by kernel_rfl, rfl, by kernel_rfl⟩, by kernel_rfl, by decide⟩
theorem c (k : Nat) : Contract Tryz.prog 44 (fs k) :=
  fn_sound (ps := [(.st (.pair (.int .i64) (.st (.pair (.st (.pair .bool (.list (.int .u32)))) (.list (.int .u32))))))]) (rs := [(.st (.pair (.int .i64) (.st (.pair (.st (.pair .bool (.list (.int .u32)))) (.list (.int .u32))))))]) (pts := ptL) (fns := fns) (fgs := fgs) (fws := fws) (tys := tyTab) (main := fun k (x : (Int × ((Bool × (List Int)) × (List Int)))) => ref04_minus.f k x) ok mix tyOk trivial (fun k x => by kernel_rfl) (fun k => ⟨⟨ref03_Neg.c k, trivial⟩, trivial, trivial⟩) k
end ref04_minus

namespace ref04_Diff
def s5 : PSig := ⟨0, [(30, (.st (.pair .flt .flt)), true)], [(4, .ptr 0 [])]⟩
def fws : Nat → List (FuncId × FW) := fun _ => []
def ptL : List (Pt (TD [(.st (.pair .flt .flt)), (.int .i64)])) := [⟨5, s5, fun k (x : (Nat × Nat)) => ref04_Diff.p5 k x⟩]
def fns : Nat → List (FuncId × FS) := fun k => [(12, ⟨[(.st (.pair .flt .flt))], [.bool], fun (x : (Nat × Nat)) => ref04_Valid.f k x⟩), (34, ⟨[.flt], [(.st (.pair (.int .i64) (.st (.pair (.st (.pair .bool (.list (.int .u32)))) (.list (.int .u32))))))], fun (x : Nat) => ref04_endOf.f k x⟩), (44, ⟨[(.st (.pair (.int .i64) (.st (.pair (.st (.pair .bool (.list (.int .u32)))) (.list (.int .u32))))))], [(.st (.pair (.int .i64) (.st (.pair (.st (.pair .bool (.list (.int .u32)))) (.list (.int .u32))))))], fun (x : (Int × ((Bool × (List Int)) × (List Int)))) => ref04_minus.f k x⟩), (41, ⟨[(.st (.pair (.int .i64) (.st (.pair (.st (.pair .bool (.list (.int .u32)))) (.list (.int .u32)))))), (.st (.pair (.int .i64) (.st (.pair (.st (.pair .bool (.list (.int .u32)))) (.list (.int .u32))))))], [(.st (.pair (.int .i64) (.st (.pair (.st (.pair .bool (.list (.int .u32)))) (.list (.int .u32))))))], fun (x : (Int × ((Bool × (List Int)) × (List Int))) × (Int × ((Bool × (List Int)) × (List Int)))) => ref04_plus.f k x.1 x.2⟩), (42, ⟨[(.st (.pair (.int .i64) (.st (.pair (.st (.pair .bool (.list (.int .u32)))) (.list (.int .u32)))))), .bool], [.flt], fun (x : (Int × ((Bool × (List Int)) × (List Int))) × Bool) => ref04_float.f k x.1 x.2⟩)]
def fgs : Nat → List (FuncId × FG) := fun _ => []
def fs (k : Nat) : FS := ⟨[(.st (.pair .flt .flt)), (.st (.pair .flt .flt))], [(.st (.pair .flt .flt)), (.int .i64)], fun (x : (Nat × Nat) × (Nat × Nat)) => ref04_Diff.f k x.1 x.2⟩
theorem ok : FnOk Tryz.prog 16 38 Tryz.f16.results.toList (Tryz.f16.body.getD .skip) 2 := ⟨⟨Tryz.f16, by kernel_rfl, by kernel_rfl, by kernel_rfl, rfl, by kernel_rfl⟩, by kernel_rfl, by decide⟩
theorem c (k : Nat) : Contract Tryz.prog 16 (fs k) :=
  fn_sound (ps := [(.st (.pair .flt .flt)), (.st (.pair .flt .flt))]) (rs := [(.st (.pair .flt .flt)), (.int .i64)]) (pts := ptL) (fns := fns) (fgs := fgs) (fws := fws) (tys := tyTab) (main := fun k (x : (Nat × Nat) × (Nat × Nat)) => ref04_Diff.f k x.1 x.2) ok mix tyOk ⟨⟨rfl, fun _ => rfl, fun k x => by kernel_rfl⟩, trivial⟩ (fun k x => by kernel_rfl) (fun k => ⟨⟨ref04_Valid.c k, ref04_endOf.c k, ref04_minus.c k, ref04_plus.c k, ref04_float.c k, trivial⟩, trivial, trivial⟩) k
end ref04_Diff

namespace _approx_end_sign
def fws : Nat → List (FuncId × FW) := fun _ => []
def ptL : List (Pt (TD [(.int .i64)])) := []
def fns : Nat → List (FuncId × FS) := fun k => [(58, ⟨[(.st (.pair (.st (.pair .bool (.list (.int .u32)))) (.list (.int .u32))))], [(.int .i64)], fun (x : ((Bool × (List Int)) × (List Int))) => ratio_Sign.f k x⟩)]
def fgs : Nat → List (FuncId × FG) := fun _ => []
def fs (k : Nat) : FS := ⟨[(.st (.pair (.int .i64) (.st (.pair (.st (.pair .bool (.list (.int .u32)))) (.list (.int .u32))))))], [(.int .i64)], fun (x : (Int × ((Bool × (List Int)) × (List Int)))) => _approx_end_sign.f k x⟩
theorem ok : FnOk Tryz.prog 76 11 Tryz.f76.results.toList (Tryz.f76.body.getD .skip) 1 := ⟨⟨Tryz.f76, by kernel_rfl, by kernel_rfl, by kernel_rfl, rfl, by kernel_rfl⟩, by kernel_rfl, by decide⟩
theorem c (k : Nat) : Contract Tryz.prog 76 (fs k) :=
  fn_sound (ps := [(.st (.pair (.int .i64) (.st (.pair (.st (.pair .bool (.list (.int .u32)))) (.list (.int .u32))))))]) (rs := [(.int .i64)]) (pts := ptL) (fns := fns) (fgs := fgs) (fws := fws) (tys := tyTab) (main := fun k (x : (Int × ((Bool × (List Int)) × (List Int)))) => _approx_end_sign.f k x) ok mix tyOk trivial (fun k x => by kernel_rfl) (fun k => ⟨⟨ratio_Sign.c k, trivial⟩, trivial, trivial⟩) k
end _approx_end_sign

namespace approx_mul
def s7 : PSig := ⟨0, [(47, (.st (.pair (.int .i64) (.st (.pair (.st (.pair .bool (.list (.int .u32)))) (.list (.int .u32)))))), true), (47, (.st (.pair (.int .i64) (.st (.pair (.st (.pair .bool (.list (.int .u32)))) (.list (.int .u32)))))), true), (47, (.st (.pair (.int .i64) (.st (.pair (.st (.pair .bool (.list (.int .u32)))) (.list (.int .u32)))))), true)], [(2, .ptr 0 []), (3, .ptr 1 []), (4, .ptr 2 [])]⟩
def fws : Nat → List (FuncId × FW) := fun _ => []
def ptL : List (Pt (TD [(.st (.pair (.int .i64) (.st (.pair (.st (.pair .bool (.list (.int .u32)))) (.list (.int .u32))))))])) := [⟨7, s7, fun k (x : (Int × ((Bool × (List Int)) × (List Int))) × (Int × ((Bool × (List Int)) × (List Int))) × (Int × ((Bool × (List Int)) × (List Int)))) => approx_mul.p7 k x.1 x.2.1 x.2.2⟩]
def fns : Nat → List (FuncId × FS) := fun k => [(75, ⟨[(.st (.pair (.st (.pair .bool (.list (.int .u32)))) (.list (.int .u32)))), (.st (.pair (.st (.pair .bool (.list (.int .u32)))) (.list (.int .u32))))], [(.st (.pair (.st (.pair .bool (.list (.int .u32)))) (.list (.int .u32))))], fun (x : ((Bool × (List Int)) × (List Int)) × ((Bool × (List Int)) × (List Int))) => ratio_Mul.f k x.1 x.2⟩), (76, ⟨[(.st (.pair (.int .i64) (.st (.pair (.st (.pair .bool (.list (.int .u32)))) (.list (.int .u32))))))], [(.int .i64)], fun (x : (Int × ((Bool × (List Int)) × (List Int)))) => _approx_end_sign.f k x⟩)]
def fgs : Nat → List (FuncId × FG) := fun _ => []
def fs (k : Nat) : FS := ⟨[(.st (.pair (.int .i64) (.st (.pair (.st (.pair .bool (.list (.int .u32)))) (.list (.int .u32)))))), (.st (.pair (.int .i64) (.st (.pair (.st (.pair .bool (.list (.int .u32)))) (.list (.int .u32))))))], [(.st (.pair (.int .i64) (.st (.pair (.st (.pair .bool (.list (.int .u32)))) (.list (.int .u32))))))], fun (x : (Int × ((Bool × (List Int)) × (List Int))) × (Int × ((Bool × (List Int)) × (List Int)))) => approx_mul.f k x.1 x.2⟩
theorem ok : FnOk Tryz.prog 46 25 Tryz.f46.results.toList (Tryz.f46.body.getD .skip) 2 := ⟨⟨Tryz.f46, by kernel_rfl, by kernel_rfl, by kernel_rfl, rfl, by kernel_rfl⟩, by kernel_rfl, by decide⟩
theorem c (k : Nat) : Contract Tryz.prog 46 (fs k) :=
  fn_sound (ps := [(.st (.pair (.int .i64) (.st (.pair (.st (.pair .bool (.list (.int .u32)))) (.list (.int .u32)))))), (.st (.pair (.int .i64) (.st (.pair (.st (.pair .bool (.list (.int .u32)))) (.list (.int .u32))))))]) (rs := [(.st (.pair (.int .i64) (.st (.pair (.st (.pair .bool (.list (.int .u32)))) (.list (.int .u32))))))]) (pts := ptL) (fns := fns) (fgs := fgs) (fws := fws) (tys := tyTab) (main := fun k (x : (Int × ((Bool × (List Int)) × (List Int))) × (Int × ((Bool × (List Int)) × (List Int)))) => approx_mul.f k x.1 x.2) ok mix tyOk ⟨⟨rfl, fun _ => rfl, fun k x => by kernel_rfl⟩, trivial⟩ (fun k x => by kernel_rfl) (fun k => ⟨⟨ratio_Mul.c k, _approx_end_sign.c k, trivial⟩, trivial, trivial⟩) k
end approx_mul

namespace approx_four_f46
def s0 : PSig := ⟨0, [(30, (.st (.pair .flt .flt)), true), (30, (.st (.pair .flt .flt)), true), (47, (.st (.pair (.int .i64) (.st (.pair (.st (.pair .bool (.list (.int .u32)))) (.list (.int .u32)))))), false)], [(2, .fn 46), (4, .ptr 0 []), (6, .ptr 1 []), (7, .own 2), (16, .val (.st (.pair .flt .flt))), (17, .val (.int .i64))]⟩
def s11 : PSig := ⟨0, [(30, (.st (.pair .flt .flt)), true), (30, (.st (.pair .flt .flt)), true), (47, (.st (.pair (.int .i64) (.st (.pair (.st (.pair .bool (.list (.int .u32)))) (.list (.int .u32)))))), false)], [(2, .fn 46), (4, .ptr 0 []), (6, .ptr 1 []), (7, .own 2), (9, .val .flt), (16, .val (.st (.pair .flt .flt))), (17, .val (.int .i64))]⟩
def s4 : PSig := ⟨0, [(30, (.st (.pair .flt .flt)), true), (30, (.st (.pair .flt .flt)), true), (47, (.st (.pair (.int .i64) (.st (.pair (.st (.pair .bool (.list (.int .u32)))) (.list (.int .u32)))))), false)], [(2, .fn 46), (4, .ptr 0 []), (6, .ptr 1 []), (7, .own 2), (9, .val .flt), (16, .val (.st (.pair .flt .flt))), (17, .val (.int .i64)), (24, .val (.st (.pair .flt .flt))), (25, .val (.int .i64))]⟩
def s17 : PSig := ⟨0, [(30, (.st (.pair .flt .flt)), true), (30, (.st (.pair .flt .flt)), true), (47, (.st (.pair (.int .i64) (.st (.pair (.st (.pair .bool (.list (.int .u32)))) (.list (.int .u32)))))), false)], [(2, .fn 46), (4, .ptr 0 []), (6, .ptr 1 []), (7, .own 2), (9, .val .flt), (11, .val .flt), (16, .val (.st (.pair .flt .flt))), (17, .val (.int .i64)), (24, .val (.st (.pair .flt .flt))), (25, .val (.int .i64))]⟩
def fws : Nat → List (FuncId × FW) := fun _ => []
def ptL : List (Pt (TD [(.st (.pair .flt .flt))])) := [⟨0, s0, fun k (x : (Nat × Nat) × (Nat × Nat) × (List (Int × ((Bool × (List Int)) × (List Int)))) × (Nat × Nat) × Int) => approx_four_f46.p0 k x.1 x.2.1 x.2.2.1 x.2.2.2.1 x.2.2.2.2⟩, ⟨11, s11, fun k (x : (Nat × Nat) × (Nat × Nat) × (List (Int × ((Bool × (List Int)) × (List Int)))) × Nat × (Nat × Nat) × Int) => approx_four_f46.p11 k x.1 x.2.1 x.2.2.1 x.2.2.2.1 x.2.2.2.2.1 x.2.2.2.2.2⟩, ⟨4, s4, fun k (x : (Nat × Nat) × (Nat × Nat) × (List (Int × ((Bool × (List Int)) × (List Int)))) × Nat × (Nat × Nat) × Int × (Nat × Nat) × Int) => approx_four_f46.p4 k x.1 x.2.1 x.2.2.1 x.2.2.2.1 x.2.2.2.2.1 x.2.2.2.2.2.1 x.2.2.2.2.2.2.1 x.2.2.2.2.2.2.2⟩, ⟨17, s17, fun k (x : (Nat × Nat) × (Nat × Nat) × (List (Int × ((Bool × (List Int)) × (List Int)))) × Nat × Nat × (Nat × Nat) × Int × (Nat × Nat) × Int) => approx_four_f46.p17 k x.1 x.2.1 x.2.2.1 x.2.2.2.1 x.2.2.2.2.1 x.2.2.2.2.2.1 x.2.2.2.2.2.2.1 x.2.2.2.2.2.2.2.1 x.2.2.2.2.2.2.2.2⟩]
def fns : Nat → List (FuncId × FS) := fun k => [(39, ⟨[(.list (.st (.pair (.int .i64) (.st (.pair (.st (.pair .bool (.list (.int .u32)))) (.list (.int .u32)))))))], [(.st (.pair .flt .flt))], fun (x : (List (Int × ((Bool × (List Int)) × (List Int))))) => approx_span.f k x⟩), (31, ⟨[.flt], [(.st (.pair (.int .i64) (.st (.pair (.st (.pair .bool (.list (.int .u32)))) (.list (.int .u32))))))], fun (x : Nat) => approx_endOf.f k x⟩), (46, ⟨[(.st (.pair (.int .i64) (.st (.pair (.st (.pair .bool (.list (.int .u32)))) (.list (.int .u32)))))), (.st (.pair (.int .i64) (.st (.pair (.st (.pair .bool (.list (.int .u32)))) (.list (.int .u32))))))], [(.st (.pair (.int .i64) (.st (.pair (.st (.pair .bool (.list (.int .u32)))) (.list (.int .u32))))))], fun (x : (Int × ((Bool × (List Int)) × (List Int))) × (Int × ((Bool × (List Int)) × (List Int)))) => approx_mul.f k x.1 x.2⟩)]
def fgs : Nat → List (FuncId × FG) := fun _ => []
def fs (k : Nat) : FS := ⟨[(.st (.pair .flt .flt)), (.st (.pair .flt .flt)), (.fnc 46)], [(.st (.pair .flt .flt))], fun (x : (Nat × Nat) × (Nat × Nat) × Unit) => approx_four_f46.f k x.1 x.2.1 x.2.2⟩
theorem ok : FnOk Tryz.prog 45 41 Tryz.f45.results.toList (Tryz.f45.body.getD .skip) 3 := ⟨⟨Tryz.f45, by kernel_rfl, by kernel_rfl, by kernel_rfl, rfl, by kernel_rfl⟩, by kernel_rfl, by decide⟩
theorem c (k : Nat) : Contract Tryz.prog 45 (fs k) :=
  fn_sound (ps := [(.st (.pair .flt .flt)), (.st (.pair .flt .flt)), (.fnc 46)]) (rs := [(.st (.pair .flt .flt))]) (pts := ptL) (fns := fns) (fgs := fgs) (fws := fws) (tys := tyTab) (main := fun k (x : (Nat × Nat) × (Nat × Nat) × Unit) => approx_four_f46.f k x.1 x.2.1 x.2.2) ok mix tyOk ⟨⟨rfl, fun _ => rfl, fun k x => by kernel_rfl⟩, ⟨rfl, fun _ => rfl, fun k x => by kernel_rfl⟩, ⟨rfl, fun _ => rfl, fun k x => by kernel_rfl⟩, ⟨rfl, fun _ => rfl, fun k x => by kernel_rfl⟩, trivial⟩ (fun k x => by kernel_rfl) (fun k => ⟨⟨approx_span.c k, approx_endOf.c k, approx_mul.c k, trivial⟩, trivial, trivial⟩) k
end approx_four_f46

namespace approx_Prod
def fws : Nat → List (FuncId × FW) := fun _ => []
def ptL : List (Pt (TD [(.st (.pair .flt .flt)), (.int .i64)])) := []
def fns : Nat → List (FuncId × FS) := fun k => [(38, ⟨[(.st (.pair .flt .flt)), (.st (.pair .flt .flt))], [.bool], fun (x : (Nat × Nat) × (Nat × Nat)) => approx_both.f k x.1 x.2⟩), (45, ⟨[(.st (.pair .flt .flt)), (.st (.pair .flt .flt)), (.fnc 46)], [(.st (.pair .flt .flt))], fun (x : (Nat × Nat) × (Nat × Nat) × Unit) => approx_four_f46.f k x.1 x.2.1 x.2.2⟩)]
def fgs : Nat → List (FuncId × FG) := fun _ => []
def fs (k : Nat) : FS := ⟨[(.st (.pair .flt .flt)), (.st (.pair .flt .flt))], [(.st (.pair .flt .flt)), (.int .i64)], fun (x : (Nat × Nat) × (Nat × Nat)) => approx_Prod.f k x.1 x.2⟩
theorem ok : FnOk Tryz.prog 17 14 Tryz.f17.results.toList (Tryz.f17.body.getD .skip) 2 := ⟨⟨Tryz.f17, by kernel_rfl, by kernel_rfl, by kernel_rfl, rfl, by kernel_rfl⟩, by kernel_rfl, by decide⟩
theorem c (k : Nat) : Contract Tryz.prog 17 (fs k) :=
  fn_sound (ps := [(.st (.pair .flt .flt)), (.st (.pair .flt .flt))]) (rs := [(.st (.pair .flt .flt)), (.int .i64)]) (pts := ptL) (fns := fns) (fgs := fgs) (fws := fws) (tys := tyTab) (main := fun k (x : (Nat × Nat) × (Nat × Nat)) => approx_Prod.f k x.1 x.2) ok mix tyOk trivial (fun k x => by kernel_rfl) (fun k => ⟨⟨approx_both.c k, approx_four_f46.c k, trivial⟩, trivial, trivial⟩) k
end approx_Prod

namespace ref04_signOf
def fws : Nat → List (FuncId × FW) := fun _ => []
def ptL : List (Pt (TD [(.int .i64)])) := []
def fns : Nat → List (FuncId × FS) := fun k => [(103, ⟨[(.st (.pair (.st (.pair .bool (.list (.int .u32)))) (.list (.int .u32))))], [(.int .i64)], fun (x : ((Bool × (List Int)) × (List Int))) => ref03_Sign.f k x⟩)]
def fgs : Nat → List (FuncId × FG) := fun _ => []
def fs (k : Nat) : FS := ⟨[(.st (.pair (.int .i64) (.st (.pair (.st (.pair .bool (.list (.int .u32)))) (.list (.int .u32))))))], [(.int .i64)], fun (x : (Int × ((Bool × (List Int)) × (List Int)))) => ref04_signOf.f k x⟩
theorem ok : FnOk Tryz.prog 77 11 Tryz.f77.results.toList (Tryz.f77.body.getD .skip) 1 := ⟨⟨Tryz.f77, by kernel_rfl, by kernel_rfl, by kernel_rfl, rfl, by kernel_rfl⟩, by kernel_rfl, by decide⟩
theorem c (k : Nat) : Contract Tryz.prog 77 (fs k) :=
  fn_sound (ps := [(.st (.pair (.int .i64) (.st (.pair (.st (.pair .bool (.list (.int .u32)))) (.list (.int .u32))))))]) (rs := [(.int .i64)]) (pts := ptL) (fns := fns) (fgs := fgs) (fws := fws) (tys := tyTab) (main := fun k (x : (Int × ((Bool × (List Int)) × (List Int)))) => ref04_signOf.f k x) ok mix tyOk trivial (fun k x => by kernel_rfl) (fun k => ⟨⟨ref03_Sign.c k, trivial⟩, trivial, trivial⟩) k
end ref04_signOf

namespace ref04_times
def s11 : PSig := ⟨0, [(52, (.st (.pair (.int .i64) (.st (.pair (.st (.pair .bool (.list (.int .u32)))) (.list (.int .u32)))))), true)], [(4, .ptr 0 []), (5, .val (.int .i64))]⟩
def fws : Nat → List (FuncId × FW) := fun _ => []
def ptL : List (Pt (TD [(.st (.pair (.int .i64) (.st (.pair (.st (.pair .bool (.list (.int .u32)))) (.list (.int .u32))))))])) := [⟨11, s11, fun k (x : (Int × ((Bool × (List Int)) × (List Int))) × Int) => ref04_times.p11 k x.1 x.2⟩]
def fns : Nat → List (FuncId × FS) := fun k => [(77, ⟨[(.st (.pair (.int .i64) (.st (.pair (.st (.pair .bool (.list (.int .u32)))) (.list (.int .u32))))))], [(.int .i64)], fun (x : (Int × ((Bool × (List Int)) × (List Int)))) => ref04_signOf.f k x⟩), (23, ⟨[(.st (.pair (.st (.pair .bool (.list (.int .u32)))) (.list (.int .u32)))), (.st (.pair (.st (.pair .bool (.list (.int .u32)))) (.list (.int .u32))))], [(.st (.pair (.st (.pair .bool (.list (.int .u32)))) (.list (.int .u32))))], fun (x : ((Bool × (List Int)) × (List Int)) × ((Bool × (List Int)) × (List Int))) => ref03_Mul.f k x.1 x.2⟩)]
def fgs : Nat → List (FuncId × FG) := fun _ => []
def fs (k : Nat) : FS := ⟨[(.st (.pair (.int .i64) (.st (.pair (.st (.pair .bool (.list (.int .u32)))) (.list (.int .u32)))))), (.st (.pair (.int .i64) (.st (.pair (.st (.pair .bool (.list (.int .u32)))) (.list (.int .u32))))))], [(.st (.pair (.int .i64) (.st (.pair (.st (.pair .bool (.list (.int .u32)))) (.list (.int .u32))))))], fun (x : (Int × ((Bool × (List Int)) × (List Int))) × (Int × ((Bool × (List Int)) × (List Int)))) => ref04_times.f k x.1 x.2⟩
theorem ok : FnOk Tryz.prog 48 30 Tryz.f48.results.toList (Tryz.f48.body.getD .skip) 2 := ⟨⟨Tryz.f48, by kernel_rfl, by kernel_rfl, by kernel_rfl, rfl, by kernel_rfl⟩, by kernel_rfl, by decide⟩
theorem c (k : Nat) : Contract Tryz.prog 48 (fs k) :=
  fn_sound (ps := [(.st (.pair (.int .i64) (.st (.pair (.st (.pair .bool (.list (.int .u32)))) (.list (.int .u32)))))), (.st (.pair (.int .i64) (.st (.pair (.st (.pair .bool (.list (.int .u32)))) (.list (.int .u32))))))]) (rs := [(.st (.pair (.int .i64) (.st (.pair (.st (.pair .bool (.list (.int .u32)))) (.list (.int .u32))))))]) (pts := ptL) (fns := fns) (fgs := fgs) (fws := fws) (tys := tyTab) (main := fun k (x : (Int × ((Bool × (List Int)) × (List Int))) × (Int × ((Bool × (List Int)) × (List Int)))) => ref04_times.f k x.1 x.2) ok mix tyOk ⟨⟨rfl, fun _ => rfl, fun k x => by kernel_rfl⟩, trivial⟩ (fun k x => by kernel_rfl) (fun k => ⟨⟨ref04_signOf.c k, ref03_Mul.c k, trivial⟩, trivial, trivial⟩) k
end ref04_times

namespace ref04_hull
def s0 : PSig := ⟨0, [(67, (.st (.pair (.st (.pair (.int .i64) (.st (.pair (.st (.pair .bool (.list (.int .u32)))) (.list (.int .u32)))))) (.pair (.st (.pair (.int .i64) (.st (.pair (.st (.pair .bool (.list (.int .u32)))) (.list (.int .u32)))))) (.pair (.st (.pair (.int .i64) (.st (.pair (.st (.pair .bool (.list (.int .u32)))) (.list (.int .u32)))))) (.st (.pair (.int .i64) (.st (.pair (.st (.pair .bool (.list (.int .u32)))) (.list (.int .u32)))))))))), true), (30, (.st (.pair .flt .flt)), true), (52, (.st (.pair (.int .i64) (.st (.pair (.st (.pair .bool (.list (.int .u32)))) (.list (.int .u32)))))), true), (52, (.st (.pair (.int .i64) (.st (.pair (.st (.pair .bool (.list (.int .u32)))) (.list (.int .u32)))))), true)], [(1, .ptr 0 []), (2, .ptr 1 []), (3, .ptr 2 []), (4, .ptr 3 []), (5, .val (.int .i64))]⟩
def s15 : PSig := ⟨0, [(67, (.st (.pair (.st (.pair (.int .i64) (.st (.pair (.st (.pair .bool (.list (.int .u32)))) (.list (.int .u32)))))) (.pair (.st (.pair (.int .i64) (.st (.pair (.st (.pair .bool (.list (.int .u32)))) (.list (.int .u32)))))) (.pair (.st (.pair (.int .i64) (.st (.pair (.st (.pair .bool (.list (.int .u32)))) (.list (.int .u32)))))) (.st (.pair (.int .i64) (.st (.pair (.st (.pair .bool (.list (.int .u32)))) (.list (.int .u32)))))))))), true), (30, (.st (.pair .flt .flt)), true), (52, (.st (.pair (.int .i64) (.st (.pair (.st (.pair .bool (.list (.int .u32)))) (.list (.int .u32)))))), true), (52, (.st (.pair (.int .i64) (.st (.pair (.st (.pair .bool (.list (.int .u32)))) (.list (.int .u32)))))), true)], [(1, .ptr 0 []), (2, .ptr 1 []), (3, .ptr 2 []), (4, .ptr 3 []), (5, .val (.int .i64))]⟩
def s17 : PSig := ⟨0, [(67, (.st (.pair (.st (.pair (.int .i64) (.st (.pair (.st (.pair .bool (.list (.int .u32)))) (.list (.int .u32)))))) (.pair (.st (.pair (.int .i64) (.st (.pair (.st (.pair .bool (.list (.int .u32)))) (.list (.int .u32)))))) (.pair (.st (.pair (.int .i64) (.st (.pair (.st (.pair .bool (.list (.int .u32)))) (.list (.int .u32)))))) (.st (.pair (.int .i64) (.st (.pair (.st (.pair .bool (.list (.int .u32)))) (.list (.int .u32)))))))))), true), (30, (.st (.pair .flt .flt)), true), (52, (.st (.pair (.int .i64) (.st (.pair (.st (.pair .bool (.list (.int .u32)))) (.list (.int .u32)))))), true), (52, (.st (.pair (.int .i64) (.st (.pair (.st (.pair .bool (.list (.int .u32)))) (.list (.int .u32)))))), true)], [(1, .ptr 0 []), (2, .ptr 1 []), (3, .ptr 2 []), (4, .ptr 3 []), (5, .val (.int .i64))]⟩
def s19 : PSig := ⟨0, [(67, (.st (.pair (.st (.pair (.int .i64) (.st (.pair (.st (.pair .bool (.list (.int .u32)))) (.list (.int .u32)))))) (.pair (.st (.pair (.int .i64) (.st (.pair (.st (.pair .bool (.list (.int .u32)))) (.list (.int .u32)))))) (.pair (.st (.pair (.int .i64) (.st (.pair (.st (.pair .bool (.list (.int .u32)))) (.list (.int .u32)))))) (.st (.pair (.int .i64) (.st (.pair (.st (.pair .bool (.list (.int .u32)))) (.list (.int .u32)))))))))), true), (30, (.st (.pair .flt .flt)), true), (52, (.st (.pair (.int .i64) (.st (.pair (.st (.pair .bool (.list (.int .u32)))) (.list (.int .u32)))))), true), (52, (.st (.pair (.int .i64) (.st (.pair (.st (.pair .bool (.list (.int .u32)))) (.list (.int .u32)))))), true)], [(1, .ptr 0 []), (2, .ptr 1 []), (3, .ptr 2 []), (4, .ptr 3 []), (5, .val (.int .i64))]⟩
def s11 : PSig := ⟨0, [(67, (.st (.pair (.st (.pair (.int .i64) (.st (.pair (.st (.pair .bool (.list (.int .u32)))) (.list (.int .u32)))))) (.pair (.st (.pair (.int .i64) (.st (.pair (.st (.pair .bool (.list (.int .u32)))) (.list (.int .u32)))))) (.pair (.st (.pair (.int .i64) (.st (.pair (.st (.pair .bool (.list (.int .u32)))) (.list (.int .u32)))))) (.st (.pair (.int .i64) (.st (.pair (.st (.pair .bool (.list (.int .u32)))) (.list (.int .u32)))))))))), true), (30, (.st (.pair .flt .flt)), true), (52, (.st (.pair (.int .i64) (.st (.pair (.st (.pair .bool (.list (.int .u32)))) (.list (.int .u32)))))), true), (52, (.st (.pair (.int .i64) (.st (.pair (.st (.pair .bool (.list (.int .u32)))) (.list (.int .u32)))))), true)], [(1, .ptr 0 []), (2, .ptr 1 []), (3, .ptr 2 []), (4, .ptr 3 []), (5, .val (.int .i64))]⟩
def fws : Nat → List (FuncId × FW) := fun _ => []
def ptL : List (Pt (TD [(.st (.pair .flt .flt))])) := [⟨0, s0, fun k (x : ((Int × ((Bool × (List Int)) × (List Int))) × (Int × ((Bool × (List Int)) × (List Int))) × (Int × ((Bool × (List Int)) × (List Int))) × (Int × ((Bool × (List Int)) × (List Int)))) × (Nat × Nat) × (Int × ((Bool × (List Int)) × (List Int))) × (Int × ((Bool × (List Int)) × (List Int))) × Int) => ref04_hull.p0 k x.1 x.2.1 x.2.2.1 x.2.2.2.1 x.2.2.2.2⟩, ⟨15, s15, fun k (x : ((Int × ((Bool × (List Int)) × (List Int))) × (Int × ((Bool × (List Int)) × (List Int))) × (Int × ((Bool × (List Int)) × (List Int))) × (Int × ((Bool × (List Int)) × (List Int)))) × (Nat × Nat) × (Int × ((Bool × (List Int)) × (List Int))) × (Int × ((Bool × (List Int)) × (List Int))) × Int) => ref04_hull.p15 k x.1 x.2.1 x.2.2.1 x.2.2.2.1 x.2.2.2.2⟩, ⟨17, s17, fun k (x : ((Int × ((Bool × (List Int)) × (List Int))) × (Int × ((Bool × (List Int)) × (List Int))) × (Int × ((Bool × (List Int)) × (List Int))) × (Int × ((Bool × (List Int)) × (List Int)))) × (Nat × Nat) × (Int × ((Bool × (List Int)) × (List Int))) × (Int × ((Bool × (List Int)) × (List Int))) × Int) => ref04_hull.p17 k x.1 x.2.1 x.2.2.1 x.2.2.2.1 x.2.2.2.2⟩, ⟨19, s19, fun k (x : ((Int × ((Bool × (List Int)) × (List Int))) × (Int × ((Bool × (List Int)) × (List Int))) × (Int × ((Bool × (List Int)) × (List Int))) × (Int × ((Bool × (List Int)) × (List Int)))) × (Nat × Nat) × (Int × ((Bool × (List Int)) × (List Int))) × (Int × ((Bool × (List Int)) × (List Int))) × Int) => ref04_hull.p19 k x.1 x.2.1 x.2.2.1 x.2.2.2.1 x.2.2.2.2⟩, ⟨11, s11, fun k (x : ((Int × ((Bool × (List Int)) × (List Int))) × (Int × ((Bool × (List Int)) × (List Int))) × (Int × ((Bool × (List Int)) × (List Int))) × (Int × ((Bool × (List Int)) × (List Int)))) × (Nat × Nat) × (Int × ((Bool × (List Int)) × (List Int))) × (Int × ((Bool × (List Int)) × (List Int))) × Int) => ref04_hull.p11 k x.1 x.2.1 x.2.2.1 x.2.2.2.1 x.2.2.2.2⟩]
def fns : Nat → List (FuncId × FS) := fun k => [(33, ⟨[(.st (.pair (.int .i64) (.st (.pair (.st (.pair .bool (.list (.int .u32)))) (.list (.int .u32)))))), (.st (.pair (.int .i64) (.st (.pair (.st (.pair .bool (.list (.int .u32)))) (.list (.int .u32))))))], [.bool], fun (x : (Int × ((Bool × (List Int)) × (List Int))) × (Int × ((Bool × (List Int)) × (List Int)))) => ref04_under.f k x.1 x.2⟩), (42, ⟨[(.st (.pair (.int .i64) (.st (.pair (.st (.pair .bool (.list (.int .u32)))) (.list (.int .u32)))))), .bool], [.flt], fun (x : (Int × ((Bool × (List Int)) × (List Int))) × Bool) => ref04_float.f k x.1 x.2⟩)]
def fgs : Nat → List (FuncId × FG) := fun _ => []
def fs (k : Nat) : FS := ⟨[(.st (.pair (.st (.pair (.int .i64) (.st (.pair (.st (.pair .bool (.list (.int .u32)))) (.list (.int .u32)))))) (.pair (.st (.pair (.int .i64) (.st (.pair (.st (.pair .bool (.list (.int .u32)))) (.list (.int .u32)))))) (.pair (.st (.pair (.int .i64) (.st (.pair (.st (.pair .bool (.list (.int .u32)))) (.list (.int .u32)))))) (.st (.pair (.int .i64) (.st (.pair (.st (.pair .bool (.list (.int .u32)))) (.list (.int .u32))))))))))], [(.st (.pair .flt .flt))], fun (x : ((Int × ((Bool × (List Int)) × (List Int))) × (Int × ((Bool × (List Int)) × (List Int))) × (Int × ((Bool × (List Int)) × (List Int))) × (Int × ((Bool × (List Int)) × (List Int))))) => ref04_hull.f k x⟩
theorem ok : FnOk Tryz.prog 47 35 Tryz.f47.results.toList (Tryz.f47.body.getD .skip) 1 := ⟨⟨Tryz.f47, by kernel_rfl, by kernel_rfl, by kernel_rfl, rfl, by kernel_rfl⟩, by kernel_rfl, by decide⟩
theorem c (k : Nat) : Contract Tryz.prog 47 (fs k) :=
  fn_sound (ps := [(.st (.pair (.st (.pair (.int .i64) (.st (.pair (.st (.pair .bool (.list (.int .u32)))) (.list (.int .u32)))))) (.pair (.st (.pair (.int .i64) (.st (.pair (.st (.pair .bool (.list (.int .u32)))) (.list (.int .u32)))))) (.pair (.st (.pair (.int .i64) (.st (.pair (.st (.pair .bool (.list (.int .u32)))) (.list (.int .u32)))))) (.st (.pair (.int .i64) (.st (.pair (.st (.pair .bool (.list (.int .u32)))) (.list (.int .u32))))))))))]) (rs := [(.st (.pair .flt .flt))]) (pts := ptL) (fns := fns) (fgs := fgs) (fws := fws) (tys := tyTab) (main := fun k (x : ((Int × ((Bool × (List Int)) × (List Int))) × (Int × ((Bool × (List Int)) × (List Int))) × (Int × ((Bool × (List Int)) × (List Int))) × (Int × ((Bool × (List Int)) × (List Int))))) => ref04_hull.f k x) ok mix tyOk ⟨⟨rfl, fun _ => rfl, fun k x => by kernel_rfl⟩, ⟨rfl, fun _ => rfl, fun k x => by kernel_rfl⟩, ⟨rfl, fun _ => rfl, fun k x => by kernel_rfl⟩, ⟨rfl, fun _ => rfl, fun k x => by kernel_rfl⟩, ⟨rfl, fun _ => rfl, fun k x => by kernel_rfl⟩, trivial⟩ (fun k x => by kernel_rfl) (fun k => ⟨⟨ref04_under.c k, ref04_float.c k, trivial⟩, trivial, trivial⟩) k
end ref04_hull

namespace ref04_Prod
def s5 : PSig := ⟨0, [(30, (.st (.pair .flt .flt)), true)], [(4, .ptr 0 [])]⟩
def fws : Nat → List (FuncId × FW) := fun _ => []
def ptL : List (Pt (TD [(.st (.pair .flt .flt)), (.int .i64)])) := [⟨5, s5, fun k (x : (Nat × Nat)) => ref04_Prod.p5 k x⟩]
def fns : Nat → List (FuncId × FS) := fun k => [(12, ⟨[(.st (.pair .flt .flt))], [.bool], fun (x : (Nat × Nat)) => ref04_Valid.f k x⟩), (34, ⟨[.flt], [(.st (.pair (.int .i64) (.st (.pair (.st (.pair .bool (.list (.int .u32)))) (.list (.int .u32))))))], fun (x : Nat) => ref04_endOf.f k x⟩), (48, ⟨[(.st (.pair (.int .i64) (.st (.pair (.st (.pair .bool (.list (.int .u32)))) (.list (.int .u32)))))), (.st (.pair (.int .i64) (.st (.pair (.st (.pair .bool (.list (.int .u32)))) (.list (.int .u32))))))], [(.st (.pair (.int .i64) (.st (.pair (.st (.pair .bool (.list (.int .u32)))) (.list (.int .u32))))))], fun (x : (Int × ((Bool × (List Int)) × (List Int))) × (Int × ((Bool × (List Int)) × (List Int)))) => ref04_times.f k x.1 x.2⟩), (47, ⟨[(.st (.pair (.st (.pair (.int .i64) (.st (.pair (.st (.pair .bool (.list (.int .u32)))) (.list (.int .u32)))))) (.pair (.st (.pair (.int .i64) (.st (.pair (.st (.pair .bool (.list (.int .u32)))) (.list (.int .u32)))))) (.pair (.st (.pair (.int .i64) (.st (.pair (.st (.pair .bool (.list (.int .u32)))) (.list (.int .u32)))))) (.st (.pair (.int .i64) (.st (.pair (.st (.pair .bool (.list (.int .u32)))) (.list (.int .u32))))))))))], [(.st (.pair .flt .flt))], fun (x : ((Int × ((Bool × (List Int)) × (List Int))) × (Int × ((Bool × (List Int)) × (List Int))) × (Int × ((Bool × (List Int)) × (List Int))) × (Int × ((Bool × (List Int)) × (List Int))))) => ref04_hull.f k x⟩)]
def fgs : Nat → List (FuncId × FG) := fun _ => []
def fs (k : Nat) : FS := ⟨[(.st (.pair .flt .flt)), (.st (.pair .flt .flt))], [(.st (.pair .flt .flt)), (.int .i64)], fun (x : (Nat × Nat) × (Nat × Nat)) => ref04_Prod.f k x.1 x.2⟩
theorem ok : FnOk Tryz.prog 18 45 Tryz.f18.results.toList (Tryz.f18.body.getD .skip) 2 := ⟨⟨Tryz.f18, by kernel_rfl, by kernel_rfl, by kernel_rfl, rfl, by kernel_rfl⟩, by kernel_rfl, by decide⟩
theorem c (k : Nat) : Contract Tryz.prog 18 (fs k) :=
  fn_sound (ps := [(.st (.pair .flt .flt)), (.st (.pair .flt .flt))]) (rs := [(.st (.pair .flt .flt)), (.int .i64)]) (pts := ptL) (fns := fns) (fgs := fgs) (fws := fws) (tys := tyTab) (main := fun k (x : (Nat × Nat) × (Nat × Nat)) => ref04_Prod.f k x.1 x.2) ok mix tyOk ⟨⟨rfl, fun _ => rfl, fun k x => by kernel_rfl⟩, trivial⟩ (fun k x => by kernel_rfl) (fun k => ⟨⟨ref04_Valid.c k, ref04_endOf.c k, ref04_times.c k, ref04_hull.c k, trivial⟩, trivial, trivial⟩) k
end ref04_Prod

namespace ratio_Div
def fws : Nat → List (FuncId × FW) := fun _ => []
def ptL : List (Pt (TD [(.st (.pair (.st (.pair .bool (.list (.int .u32)))) (.list (.int .u32)))), (.int .i64)])) := []
def fns : Nat → List (FuncId × FS) := fun k => [(109, ⟨[(.st (.pair (.st (.pair .bool (.list (.int .u32)))) (.list (.int .u32))))], [(.st (.pair (.st (.pair .bool (.list (.int .u32)))) (.list (.int .u32)))), (.int .i64)], fun (x : ((Bool × (List Int)) × (List Int))) => ratio_Inv.f k x⟩), (75, ⟨[(.st (.pair (.st (.pair .bool (.list (.int .u32)))) (.list (.int .u32)))), (.st (.pair (.st (.pair .bool (.list (.int .u32)))) (.list (.int .u32))))], [(.st (.pair (.st (.pair .bool (.list (.int .u32)))) (.list (.int .u32))))], fun (x : ((Bool × (List Int)) × (List Int)) × ((Bool × (List Int)) × (List Int))) => ratio_Mul.f k x.1 x.2⟩)]
def fgs : Nat → List (FuncId × FG) := fun _ => []
def fs (k : Nat) : FS := ⟨[(.st (.pair (.st (.pair .bool (.list (.int .u32)))) (.list (.int .u32)))), (.st (.pair (.st (.pair .bool (.list (.int .u32)))) (.list (.int .u32))))], [(.st (.pair (.st (.pair .bool (.list (.int .u32)))) (.list (.int .u32)))), (.int .i64)], fun (x : ((Bool × (List Int)) × (List Int)) × ((Bool × (List Int)) × (List Int))) => ratio_Div.f k x.1 x.2⟩
theorem ok : FnOk Tryz.prog 78 20 Tryz.f78.results.toList (Tryz.f78.body.getD .skip) 2 := ⟨⟨Tryz.f78, by kernel_rfl, by kernel_rfl, by kernel_rfl, rfl, by kernel_rfl⟩, by kernel_rfl, by decide⟩
theorem c (k : Nat) : Contract Tryz.prog 78 (fs k) :=
  fn_sound (ps := [(.st (.pair (.st (.pair .bool (.list (.int .u32)))) (.list (.int .u32)))), (.st (.pair (.st (.pair .bool (.list (.int .u32)))) (.list (.int .u32))))]) (rs := [(.st (.pair (.st (.pair .bool (.list (.int .u32)))) (.list (.int .u32)))), (.int .i64)]) (pts := ptL) (fns := fns) (fgs := fgs) (fws := fws) (tys := tyTab) (main := fun k (x : ((Bool × (List Int)) × (List Int)) × ((Bool × (List Int)) × (List Int))) => ratio_Div.f k x.1 x.2) ok mix tyOk trivial (fun k x => by kernel_rfl) (fun k => ⟨⟨ratio_Inv.c k, ratio_Mul.c k, trivial⟩, trivial, trivial⟩) k
end ratio_Div

namespace approx_div
def fws : Nat → List (FuncId × FW) := fun _ => []
def ptL : List (Pt (TD [(.st (.pair (.int .i64) (.st (.pair (.st (.pair .bool (.list (.int .u32)))) (.list (.int .u32))))))])) := []
def fns : Nat → List (FuncId × FS) := fun k => [(76, ⟨[(.st (.pair (.int .i64) (.st (.pair (.st (.pair .bool (.list (.int .u32)))) (.list (.int .u32))))))], [(.int .i64)], fun (x : (Int × ((Bool × (List Int)) × (List Int)))) => _approx_end_sign.f k x⟩), (78, ⟨[(.st (.pair (.st (.pair .bool (.list (.int .u32)))) (.list (.int .u32)))), (.st (.pair (.st (.pair .bool (.list (.int .u32)))) (.list (.int .u32))))], [(.st (.pair (.st (.pair .bool (.list (.int .u32)))) (.list (.int .u32)))), (.int .i64)], fun (x : ((Bool × (List Int)) × (List Int)) × ((Bool × (List Int)) × (List Int))) => ratio_Div.f k x.1 x.2⟩)]
def fgs : Nat → List (FuncId × FG) := fun _ => []
def fs (k : Nat) : FS := ⟨[(.st (.pair (.int .i64) (.st (.pair (.st (.pair .bool (.list (.int .u32)))) (.list (.int .u32)))))), (.st (.pair (.int .i64) (.st (.pair (.st (.pair .bool (.list (.int .u32)))) (.list (.int .u32))))))], [(.st (.pair (.int .i64) (.st (.pair (.st (.pair .bool (.list (.int .u32)))) (.list (.int .u32))))))], fun (x : (Int × ((Bool × (List Int)) × (List Int))) × (Int × ((Bool × (List Int)) × (List Int)))) => approx_div.f k x.1 x.2⟩
theorem ok : FnOk Tryz.prog 49 30 Tryz.f49.results.toList (Tryz.f49.body.getD .skip) 2 := ⟨⟨Tryz.f49, by kernel_rfl, by kernel_rfl, by kernel_rfl, rfl, by kernel_rfl⟩, by kernel_rfl, by decide⟩
theorem c (k : Nat) : Contract Tryz.prog 49 (fs k) :=
  fn_sound (ps := [(.st (.pair (.int .i64) (.st (.pair (.st (.pair .bool (.list (.int .u32)))) (.list (.int .u32)))))), (.st (.pair (.int .i64) (.st (.pair (.st (.pair .bool (.list (.int .u32)))) (.list (.int .u32))))))]) (rs := [(.st (.pair (.int .i64) (.st (.pair (.st (.pair .bool (.list (.int .u32)))) (.list (.int .u32))))))]) (pts := ptL) (fns := fns) (fgs := fgs) (fws := fws) (tys := tyTab) (main := fun k (x : (Int × ((Bool × (List Int)) × (List Int))) × (Int × ((Bool × (List Int)) × (List Int)))) => approx_div.f k x.1 x.2) ok mix tyOk trivial (fun k x => by kernel_rfl) (fun k => ⟨⟨_approx_end_sign.c k, ratio_Div.c k, trivial⟩, trivial, trivial⟩) k
end approx_div

namespace approx_four_f49
def s0 : PSig := ⟨0, [(30, (.st (.pair .flt .flt)), true), (30, (.st (.pair .flt .flt)), true), (47, (.st (.pair (.int .i64) (.st (.pair (.st (.pair .bool (.list (.int .u32)))) (.list (.int .u32)))))), false)], [(2, .fn 49), (4, .ptr 0 []), (6, .ptr 1 []), (7, .own 2), (16, .val (.st (.pair .flt .flt))), (17, .val (.int .i64))]⟩
def s11 : PSig := ⟨0, [(30, (.st (.pair .flt .flt)), true), (30, (.st (.pair .flt .flt)), true), (47, (.st (.pair (.int .i64) (.st (.pair (.st (.pair .bool (.list (.int .u32)))) (.list (.int .u32)))))), false)], [(2, .fn 49), (4, .ptr 0 []), (6, .ptr 1 []), (7, .own 2), (9, .val .flt), (16, .val (.st (.pair .flt .flt))), (17, .val (.int .i64))]⟩
def s4 : PSig := ⟨0, [(30, (.st (.pair .flt .flt)), true), (30, (.st (.pair .flt .flt)), true), (47, (.st (.pair (.int .i64) (.st (.pair (.st (.pair .bool (.list (.int .u32)))) (.list (.int .u32)))))), false)], [(2, .fn 49), (4, .ptr 0 []), (6, .ptr 1 []), (7, .own 2), (9, .val .flt), (16, .val (.st (.pair .flt .flt))), (17, .val (.int .i64)), (24, .val (.st (.pair .flt .flt))), (25, .val (.int .i64))]⟩
def s17 : PSig := ⟨0, [(30, (.st (.pair .flt .flt)), true), (30, (.st (.pair .flt .flt)), true), (47, (.st (.pair (.int .i64) (.st (.pair (.st (.pair .bool (.list (.int .u32)))) (.list (.int .u32)))))), false)], [(2, .fn 49), (4, .ptr 0 []), (6, .ptr 1 []), (7, .own 2), (9, .val .flt), (11, .val .flt), (16, .val (.st (.pair .flt .flt))), (17, .val (.int .i64)), (24, .val (.st (.pair .flt .flt))), (25, .val (.int .i64))]⟩
def fws : Nat → List (FuncId × FW) := fun _ => []
def ptL : List (Pt (TD [(.st (.pair .flt .flt))])) := [⟨0, s0, fun k (x : (Nat × Nat) × (Nat × Nat) × (List (Int × ((Bool × (List Int)) × (List Int)))) × (Nat × Nat) × Int) => approx_four_f49.p0 k x.1 x.2.1 x.2.2.1 x.2.2.2.1 x.2.2.2.2⟩, ⟨11, s11, fun k (x : (Nat × Nat) × (Nat × Nat) × (List (Int × ((Bool × (List Int)) × (List Int)))) × Nat × (Nat × Nat) × Int) => approx_four_f49.p11 k x.1 x.2.1 x.2.2.1 x.2.2.2.1 x.2.2.2.2.1 x.2.2.2.2.2⟩, ⟨4, s4, fun k (x : (Nat × Nat) × (Nat × Nat) × (List (Int × ((Bool × (List Int)) × (List Int)))) × Nat × (Nat × Nat) × Int × (Nat × Nat) × Int) => approx_four_f49.p4 k x.1 x.2.1 x.2.2.1 x.2.2.2.1 x.2.2.2.2.1 x.2.2.2.2.2.1 x.2.2.2.2.2.2.1 x.2.2.2.2.2.2.2⟩, ⟨17, s17, fun k (x : (Nat × Nat) × (Nat × Nat) × (List (Int × ((Bool × (List Int)) × (List Int)))) × Nat × Nat × (Nat × Nat) × Int × (Nat × Nat) × Int) => approx_four_f49.p17 k x.1 x.2.1 x.2.2.1 x.2.2.2.1 x.2.2.2.2.1 x.2.2.2.2.2.1 x.2.2.2.2.2.2.1 x.2.2.2.2.2.2.2.1 x.2.2.2.2.2.2.2.2⟩]
def fns : Nat → List (FuncId × FS) := fun k => [(39, ⟨[(.list (.st (.pair (.int .i64) (.st (.pair (.st (.pair .bool (.list (.int .u32)))) (.list (.int .u32)))))))], [(.st (.pair .flt .flt))], fun (x : (List (Int × ((Bool × (List Int)) × (List Int))))) => approx_span.f k x⟩), (31, ⟨[.flt], [(.st (.pair (.int .i64) (.st (.pair (.st (.pair .bool (.list (.int .u32)))) (.list (.int .u32))))))], fun (x : Nat) => approx_endOf.f k x⟩), (49, ⟨[(.st (.pair (.int .i64) (.st (.pair (.st (.pair .bool (.list (.int .u32)))) (.list (.int .u32)))))), (.st (.pair (.int .i64) (.st (.pair (.st (.pair .bool (.list (.int .u32)))) (.list (.int .u32))))))], [(.st (.pair (.int .i64) (.st (.pair (.st (.pair .bool (.list (.int .u32)))) (.list (.int .u32))))))], fun (x : (Int × ((Bool × (List Int)) × (List Int))) × (Int × ((Bool × (List Int)) × (List Int)))) => approx_div.f k x.1 x.2⟩)]
def fgs : Nat → List (FuncId × FG) := fun _ => []
def fs (k : Nat) : FS := ⟨[(.st (.pair .flt .flt)), (.st (.pair .flt .flt)), (.fnc 49)], [(.st (.pair .flt .flt))], fun (x : (Nat × Nat) × (Nat × Nat) × Unit) => approx_four_f49.f k x.1 x.2.1 x.2.2⟩
theorem ok : FnOk Tryz.prog 45 41 Tryz.f45.results.toList (Tryz.f45.body.getD .skip) 3 := ⟨⟨Tryz.f45, by kernel_rfl, by kernel_rfl, by kernel_rfl, rfl, by kernel_rfl⟩, by kernel_rfl, by decide⟩
theorem c (k : Nat) : Contract Tryz.prog 45 (fs k) :=
  fn_sound (ps := [(.st (.pair .flt .flt)), (.st (.pair .flt .flt)), (.fnc 49)]) (rs := [(.st (.pair .flt .flt))]) (pts := ptL) (fns := fns) (fgs := fgs) (fws := fws) (tys := tyTab) (main := fun k (x : (Nat × Nat) × (Nat × Nat) × Unit) => approx_four_f49.f k x.1 x.2.1 x.2.2) ok mix tyOk ⟨⟨rfl, fun _ => rfl, fun k x => by kernel_rfl⟩, ⟨rfl, fun _ => rfl, fun k x => by kernel_rfl⟩, ⟨rfl, fun _ => rfl, fun k x => by kernel_rfl⟩, ⟨rfl, fun _ => rfl, fun k x => by kernel_rfl⟩, trivial⟩ (fun k x => by kernel_rfl) (fun k => ⟨⟨approx_span.c k, approx_endOf.c k, approx_div.c k, trivial⟩, trivial, trivial⟩) k
end approx_four_f49

namespace approx_Quot
def s11 : PSig := ⟨0, [(30, (.st (.pair .flt .flt)), true), (30, (.st (.pair .flt .flt)), true), (30, (.st (.pair .flt .flt)), true)], [(2, .ptr 0 []), (3, .ptr 1 []), (4, .ptr 2 [])]⟩
def fws : Nat → List (FuncId × FW) := fun _ => []
def ptL : List (Pt (TD [(.st (.pair .flt .flt)), (.int .i64)])) := [⟨11, s11, fun k (x : (Nat × Nat) × (Nat × Nat) × (Nat × Nat)) => approx_Quot.p11 k x.1 x.2.1 x.2.2⟩]
def fns : Nat → List (FuncId × FS) := fun k => [(38, ⟨[(.st (.pair .flt .flt)), (.st (.pair .flt .flt))], [.bool], fun (x : (Nat × Nat) × (Nat × Nat)) => approx_both.f k x.1 x.2⟩), (45, ⟨[(.st (.pair .flt .flt)), (.st (.pair .flt .flt)), (.fnc 49)], [(.st (.pair .flt .flt))], fun (x : (Nat × Nat) × (Nat × Nat) × Unit) => approx_four_f49.f k x.1 x.2.1 x.2.2⟩)]
def fgs : Nat → List (FuncId × FG) := fun _ => []
def fs (k : Nat) : FS := ⟨[(.st (.pair .flt .flt)), (.st (.pair .flt .flt))], [(.st (.pair .flt .flt)), (.int .i64)], fun (x : (Nat × Nat) × (Nat × Nat)) => approx_Quot.f k x.1 x.2⟩
theorem ok : FnOk Tryz.prog 19 25 Tryz.f19.results.toList (Tryz.f19.body.getD .skip) 2 := ⟨⟨Tryz.f19, by kernel_rfl, by kernel_rfl, by kernel_rfl, rfl, by kernel_rfl⟩, by kernel_rfl, by decide⟩
theorem c (k : Nat) : Contract Tryz.prog 19 (fs k) :=
  fn_sound (ps := [(.st (.pair .flt .flt)), (.st (.pair .flt .flt))]) (rs := [(.st (.pair .flt .flt)), (.int .i64)]) (pts := ptL) (fns := fns) (fgs := fgs) (fws := fws) (tys := tyTab) (main := fun k (x : (Nat × Nat) × (Nat × Nat)) => approx_Quot.f k x.1 x.2) ok mix tyOk ⟨⟨rfl, fun _ => rfl, fun k x => by kernel_rfl⟩, trivial⟩ (fun k x => by kernel_rfl) (fun k => ⟨⟨approx_both.c k, approx_four_f49.c k, trivial⟩, trivial, trivial⟩) k
end approx_Quot

namespace ref03_Of
def fws : Nat → List (FuncId × FW) := fun _ => []
def ptL : List (Pt (TD [(.st (.pair (.st (.pair .bool (.list (.int .u32)))) (.list (.int .u32)))), (.int .i64)])) := []
def fns : Nat → List (FuncId × FS) := fun k => [(64, ⟨[(.st (.pair .bool (.list (.int .u32))))], [(.st (.pair .bool (.list (.int .u32))))], fun (x : (Bool × (List Int))) => ref02_Norm.f k x⟩), (32, ⟨[(.st (.pair (.st (.pair .bool (.list (.int .u32)))) (.list (.int .u32))))], [(.st (.pair (.st (.pair .bool (.list (.int .u32)))) (.list (.int .u32))))], fun (x : ((Bool × (List Int)) × (List Int))) => ref03_Norm.f k x⟩)]
def fgs : Nat → List (FuncId × FG) := fun _ => []
def fs (k : Nat) : FS := ⟨[(.st (.pair .bool (.list (.int .u32)))), (.st (.pair .bool (.list (.int .u32))))], [(.st (.pair (.st (.pair .bool (.list (.int .u32)))) (.list (.int .u32)))), (.int .i64)], fun (x : (Bool × (List Int)) × (Bool × (List Int))) => ref03_Of.f k x.1 x.2⟩
theorem ok : FnOk Tryz.prog 84 29 Tryz.f84.results.toList (Tryz.f84.body.getD .skip) 2 := ⟨⟨Tryz.f84, by kernel_rfl, by kernel_rfl, by kernel_rfl, rfl, by kernel_rfl⟩, by kernel_rfl, by decide⟩
theorem c (k : Nat) : Contract Tryz.prog 84 (fs k) :=
  fn_sound (ps := [(.st (.pair .bool (.list (.int .u32)))), (.st (.pair .bool (.list (.int .u32))))]) (rs := [(.st (.pair (.st (.pair .bool (.list (.int .u32)))) (.list (.int .u32)))), (.int .i64)]) (pts := ptL) (fns := fns) (fgs := fgs) (fws := fws) (tys := tyTab) (main := fun k (x : (Bool × (List Int)) × (Bool × (List Int))) => ref03_Of.f k x.1 x.2) ok mix tyOk trivial (fun k x => by kernel_rfl) (fun k => ⟨⟨ref02_Norm.c k, ref03_Norm.c k, trivial⟩, trivial, trivial⟩) k
end ref03_Of

namespace ref03_Inv
def fws : Nat → List (FuncId × FW) := fun _ => []
def ptL : List (Pt (TD [(.st (.pair (.st (.pair .bool (.list (.int .u32)))) (.list (.int .u32)))), (.int .i64)])) := []
def fns : Nat → List (FuncId × FS) := fun k => [(32, ⟨[(.st (.pair (.st (.pair .bool (.list (.int .u32)))) (.list (.int .u32))))], [(.st (.pair (.st (.pair .bool (.list (.int .u32)))) (.list (.int .u32))))], fun (x : ((Bool × (List Int)) × (List Int))) => ref03_Norm.f k x⟩), (53, ⟨[(.list (.int .u32))], [(.st (.pair .bool (.list (.int .u32))))], fun (x : (List Int)) => ref03_positive.f k x⟩), (84, ⟨[(.st (.pair .bool (.list (.int .u32)))), (.st (.pair .bool (.list (.int .u32))))], [(.st (.pair (.st (.pair .bool (.list (.int .u32)))) (.list (.int .u32)))), (.int .i64)], fun (x : (Bool × (List Int)) × (Bool × (List Int))) => ref03_Of.f k x.1 x.2⟩)]
def fgs : Nat → List (FuncId × FG) := fun _ => []
def fs (k : Nat) : FS := ⟨[(.st (.pair (.st (.pair .bool (.list (.int .u32)))) (.list (.int .u32))))], [(.st (.pair (.st (.pair .bool (.list (.int .u32)))) (.list (.int .u32)))), (.int .i64)], fun (x : ((Bool × (List Int)) × (List Int))) => ref03_Inv.f k x⟩
theorem ok : FnOk Tryz.prog 56 14 Tryz.f56.results.toList (Tryz.f56.body.getD .skip) 1 := ⟨⟨Tryz.f56, by kernel_rfl, by kernel_rfl, by kernel_rfl, rfl, by kernel_rfl⟩, by kernel_rfl, by decide⟩
theorem c (k : Nat) : Contract Tryz.prog 56 (fs k) :=
  fn_sound (ps := [(.st (.pair (.st (.pair .bool (.list (.int .u32)))) (.list (.int .u32))))]) (rs := [(.st (.pair (.st (.pair .bool (.list (.int .u32)))) (.list (.int .u32)))), (.int .i64)]) (pts := ptL) (fns := fns) (fgs := fgs) (fws := fws) (tys := tyTab) (main := fun k (x : ((Bool × (List Int)) × (List Int))) => ref03_Inv.f k x) ok mix tyOk trivial (fun k x => by kernel_rfl) (fun k => ⟨⟨ref03_Norm.c k, ref03_positive.c k, ref03_Of.c k, trivial⟩, trivial, trivial⟩) k
end ref03_Inv

namespace ref03_Div
def fws : Nat → List (FuncId × FW) := fun _ => []
def ptL : List (Pt (TD [(.st (.pair (.st (.pair .bool (.list (.int .u32)))) (.list (.int .u32)))), (.int .i64)])) := []
def fns : Nat → List (FuncId × FS) := fun k => [(56, ⟨[(.st (.pair (.st (.pair .bool (.list (.int .u32)))) (.list (.int .u32))))], [(.st (.pair (.st (.pair .bool (.list (.int .u32)))) (.list (.int .u32)))), (.int .i64)], fun (x : ((Bool × (List Int)) × (List Int))) => ref03_Inv.f k x⟩), (23, ⟨[(.st (.pair (.st (.pair .bool (.list (.int .u32)))) (.list (.int .u32)))), (.st (.pair (.st (.pair .bool (.list (.int .u32)))) (.list (.int .u32))))], [(.st (.pair (.st (.pair .bool (.list (.int .u32)))) (.list (.int .u32))))], fun (x : ((Bool × (List Int)) × (List Int)) × ((Bool × (List Int)) × (List Int))) => ref03_Mul.f k x.1 x.2⟩)]
def fgs : Nat → List (FuncId × FG) := fun _ => []
def fs (k : Nat) : FS := ⟨[(.st (.pair (.st (.pair .bool (.list (.int .u32)))) (.list (.int .u32)))), (.st (.pair (.st (.pair .bool (.list (.int .u32)))) (.list (.int .u32))))], [(.st (.pair (.st (.pair .bool (.list (.int .u32)))) (.list (.int .u32)))), (.int .i64)], fun (x : ((Bool × (List Int)) × (List Int)) × ((Bool × (List Int)) × (List Int))) => ref03_Div.f k x.1 x.2⟩
theorem ok : FnOk Tryz.prog 24 20 Tryz.f24.results.toList (Tryz.f24.body.getD .skip) 2 := ⟨⟨Tryz.f24, by kernel_rfl, by kernel_rfl, by kernel_rfl, rfl, by kernel_rfl⟩, by kernel_rfl, by decide⟩
theorem c (k : Nat) : Contract Tryz.prog 24 (fs k) :=
  fn_sound (ps := [(.st (.pair (.st (.pair .bool (.list (.int .u32)))) (.list (.int .u32)))), (.st (.pair (.st (.pair .bool (.list (.int .u32)))) (.list (.int .u32))))]) (rs := [(.st (.pair (.st (.pair .bool (.list (.int .u32)))) (.list (.int .u32)))), (.int .i64)]) (pts := ptL) (fns := fns) (fgs := fgs) (fws := fws) (tys := tyTab) (main := fun k (x : ((Bool × (List Int)) × (List Int)) × ((Bool × (List Int)) × (List Int))) => ref03_Div.f k x.1 x.2) ok mix tyOk trivial (fun k x => by kernel_rfl) (fun k => ⟨⟨ref03_Inv.c k, ref03_Mul.c k, trivial⟩, trivial, trivial⟩) k
end ref03_Div

namespace ref04_over
def fws : Nat → List (FuncId × FW) := fun _ => []
def ptL : List (Pt (TD [(.st (.pair (.int .i64) (.st (.pair (.st (.pair .bool (.list (.int .u32)))) (.list (.int .u32))))))])) := []
def fns : Nat → List (FuncId × FS) := fun k => [(77, ⟨[(.st (.pair (.int .i64) (.st (.pair (.st (.pair .bool (.list (.int .u32)))) (.list (.int .u32))))))], [(.int .i64)], fun (x : (Int × ((Bool × (List Int)) × (List Int)))) => ref04_signOf.f k x⟩), (24, ⟨[(.st (.pair (.st (.pair .bool (.list (.int .u32)))) (.list (.int .u32)))), (.st (.pair (.st (.pair .bool (.list (.int .u32)))) (.list (.int .u32))))], [(.st (.pair (.st (.pair .bool (.list (.int .u32)))) (.list (.int .u32)))), (.int .i64)], fun (x : ((Bool × (List Int)) × (List Int)) × ((Bool × (List Int)) × (List Int))) => ref03_Div.f k x.1 x.2⟩)]
def fgs : Nat → List (FuncId × FG) := fun _ => []
def fs (k : Nat) : FS := ⟨[(.st (.pair (.int .i64) (.st (.pair (.st (.pair .bool (.list (.int .u32)))) (.list (.int .u32)))))), (.st (.pair (.int .i64) (.st (.pair (.st (.pair .bool (.list (.int .u32)))) (.list (.int .u32))))))], [(.st (.pair (.int .i64) (.st (.pair (.st (.pair .bool (.list (.int .u32)))) (.list (.int .u32))))))], fun (x : (Int × ((Bool × (List Int)) × (List Int))) × (Int × ((Bool × (List Int)) × (List Int)))) => ref04_over.f k x.1 x.2⟩
theorem ok : FnOk Tryz.prog 50 30 Tryz.f50.results.toList (Tryz.f50.body.getD .skip) 2 := ⟨⟨Tryz.f50, by kernel_rfl, by kernel_rfl, by kernel_rfl, rfl, by kernel_rfl⟩, by kernel_rfl, by decide⟩
theorem c (k : Nat) : Contract Tryz.prog 50 (fs k) :=
  fn_sound (ps := [(.st (.pair (.int .i64) (.st (.pair (.st (.pair .bool (.list (.int .u32)))) (.list (.int .u32)))))), (.st (.pair (.int .i64) (.st (.pair (.st (.pair .bool (.list (.int .u32)))) (.list (.int .u32))))))]) (rs := [(.st (.pair (.int .i64) (.st (.pair (.st (.pair .bool (.list (.int .u32)))) (.list (.int .u32))))))]) (pts := ptL) (fns := fns) (fgs := fgs) (fws := fws) (tys := tyTab) (main := fun k (x : (Int × ((Bool × (List Int)) × (List Int))) × (Int × ((Bool × (List Int)) × (List Int)))) => ref04_over.f k x.1 x.2) ok mix tyOk trivial (fun k x => by kernel_rfl) (fun k => ⟨⟨ref04_signOf.c k, ref03_Div.c k, trivial⟩, trivial, trivial⟩) k
end ref04_over

namespace ref04_Quot
def s5 : PSig := ⟨0, [(30, (.st (.pair .flt .flt)), true)], [(4, .ptr 0 [])]⟩
def fws : Nat → List (FuncId × FW) := fun _ => []
def ptL : List (Pt (TD [(.st (.pair .flt .flt)), (.int .i64)])) := [⟨5, s5, fun k (x : (Nat × Nat)) => ref04_Quot.p5 k x⟩]
def fns : Nat → List (FuncId × FS) := fun k => [(12, ⟨[(.st (.pair .flt .flt))], [.bool], fun (x : (Nat × Nat)) => ref04_Valid.f k x⟩), (10, ⟨[(.st (.pair (.st (.pair .bool (.list (.int .u32)))) (.list (.int .u32)))), (.st (.pair .flt .flt))], [.bool], fun (x : ((Bool × (List Int)) × (List Int)) × (Nat × Nat)) => ref04_In.f k x.1 x.2⟩), (34, ⟨[.flt], [(.st (.pair (.int .i64) (.st (.pair (.st (.pair .bool (.list (.int .u32)))) (.list (.int .u32))))))], fun (x : Nat) => ref04_endOf.f k x⟩), (50, ⟨[(.st (.pair (.int .i64) (.st (.pair (.st (.pair .bool (.list (.int .u32)))) (.list (.int .u32)))))), (.st (.pair (.int .i64) (.st (.pair (.st (.pair .bool (.list (.int .u32)))) (.list (.int .u32))))))], [(.st (.pair (.int .i64) (.st (.pair (.st (.pair .bool (.list (.int .u32)))) (.list (.int .u32))))))], fun (x : (Int × ((Bool × (List Int)) × (List Int))) × (Int × ((Bool × (List Int)) × (List Int)))) => ref04_over.f k x.1 x.2⟩), (47, ⟨[(.st (.pair (.st (.pair (.int .i64) (.st (.pair (.st (.pair .bool (.list (.int .u32)))) (.list (.int .u32)))))) (.pair (.st (.pair (.int .i64) (.st (.pair (.st (.pair .bool (.list (.int .u32)))) (.list (.int .u32)))))) (.pair (.st (.pair (.int .i64) (.st (.pair (.st (.pair .bool (.list (.int .u32)))) (.list (.int .u32)))))) (.st (.pair (.int .i64) (.st (.pair (.st (.pair .bool (.list (.int .u32)))) (.list (.int .u32))))))))))], [(.st (.pair .flt .flt))], fun (x : ((Int × ((Bool × (List Int)) × (List Int))) × (Int × ((Bool × (List Int)) × (List Int))) × (Int × ((Bool × (List Int)) × (List Int))) × (Int × ((Bool × (List Int)) × (List Int))))) => ref04_hull.f k x⟩)]
def fgs : Nat → List (FuncId × FG) := fun _ => []
def fs (k : Nat) : FS := ⟨[(.st (.pair .flt .flt)), (.st (.pair .flt .flt))], [(.st (.pair .flt .flt)), (.int .i64)], fun (x : (Nat × Nat) × (Nat × Nat)) => ref04_Quot.f k x.1 x.2⟩
theorem ok : FnOk Tryz.prog 20 49 Tryz.f20.results.toList (Tryz.f20.body.getD .skip) 2 := ⟨⟨Tryz.f20, by kernel_rfl, by kernel_rfl, by kernel_rfl, rfl, by kernel_rfl⟩, by kernel_rfl, by decide⟩
theorem c (k : Nat) : Contract Tryz.prog 20 (fs k) :=
  fn_sound (ps := [(.st (.pair .flt .flt)), (.st (.pair .flt .flt))]) (rs := [(.st (.pair .flt .flt)), (.int .i64)]) (pts := ptL) (fns := fns) (fgs := fgs) (fws := fws) (tys := tyTab) (main := fun k (x : (Nat × Nat) × (Nat × Nat)) => ref04_Quot.f k x.1 x.2) ok mix tyOk ⟨⟨rfl, fun _ => rfl, fun k x => by kernel_rfl⟩, trivial⟩ (fun k x => by kernel_rfl) (fun k => ⟨⟨ref04_Valid.c k, ref04_In.c k, ref04_endOf.c k, ref04_over.c k, ref04_hull.c k, trivial⟩, trivial, trivial⟩) k
end ref04_Quot


namespace law04_ApproxEncloses
def s7 : PSig := ⟨0, [(30, (.st (.pair .flt .flt)), true), (27, (.st (.pair (.st (.pair .bool (.list (.int .u32)))) (.list (.int .u32)))), true)], [(3, .ptr 0 []), (5, .ptr 1 [])]⟩
def s19 : PSig := ⟨0, [], []⟩
def s23 : PSig := ⟨0, [], []⟩
def fws : Nat → List (FuncId × FW) := fun _ => []
def ptL : List (Pt (TD [.bool])) := [⟨7, s7, fun k (x : (Nat × Nat) × ((Bool × (List Int)) × (List Int))) => law04_ApproxEncloses.p7 k x.1 x.2⟩, ⟨19, s19, fun k (x : Unit) => law04_ApproxEncloses.p19 k x⟩, ⟨23, s23, fun k (x : Unit) => law04_ApproxEncloses.p23 k x⟩]
def fns : Nat → List (FuncId × FS) := fun k => [(10, ⟨[(.st (.pair (.st (.pair .bool (.list (.int .u32)))) (.list (.int .u32)))), (.st (.pair .flt .flt))], [.bool], fun (x : ((Bool × (List Int)) × (List Int)) × (Nat × Nat)) => ref04_In.f k x.1 x.2⟩), (9, ⟨[(.st (.pair (.st (.pair .bool (.list (.int .u32)))) (.list (.int .u32)))), (.st (.pair .flt .flt))], [.bool], fun (x : ((Bool × (List Int)) × (List Int)) × (Nat × Nat)) => approx_In.f k x.1 x.2⟩), (13, ⟨[(.st (.pair .flt .flt)), (.st (.pair .flt .flt))], [(.st (.pair .flt .flt)), (.int .i64)], fun (x : (Nat × Nat) × (Nat × Nat)) => approx_Sum.f k x.1 x.2⟩), (15, ⟨[(.st (.pair .flt .flt)), (.st (.pair .flt .flt))], [(.st (.pair .flt .flt)), (.int .i64)], fun (x : (Nat × Nat) × (Nat × Nat)) => approx_Diff.f k x.1 x.2⟩), (17, ⟨[(.st (.pair .flt .flt)), (.st (.pair .flt .flt))], [(.st (.pair .flt .flt)), (.int .i64)], fun (x : (Nat × Nat) × (Nat × Nat)) => approx_Prod.f k x.1 x.2⟩), (19, ⟨[(.st (.pair .flt .flt)), (.st (.pair .flt .flt))], [(.st (.pair .flt .flt)), (.int .i64)], fun (x : (Nat × Nat) × (Nat × Nat)) => approx_Quot.f k x.1 x.2⟩), (21, ⟨[(.st (.pair (.st (.pair .bool (.list (.int .u32)))) (.list (.int .u32)))), (.st (.pair (.st (.pair .bool (.list (.int .u32)))) (.list (.int .u32))))], [(.st (.pair (.st (.pair .bool (.list (.int .u32)))) (.list (.int .u32))))], fun (x : ((Bool × (List Int)) × (List Int)) × ((Bool × (List Int)) × (List Int))) => ref03_Add.f k x.1 x.2⟩), (22, ⟨[(.st (.pair (.st (.pair .bool (.list (.int .u32)))) (.list (.int .u32)))), (.st (.pair (.st (.pair .bool (.list (.int .u32)))) (.list (.int .u32))))], [(.st (.pair (.st (.pair .bool (.list (.int .u32)))) (.list (.int .u32))))], fun (x : ((Bool × (List Int)) × (List Int)) × ((Bool × (List Int)) × (List Int))) => ref03_Sub.f k x.1 x.2⟩), (23, ⟨[(.st (.pair (.st (.pair .bool (.list (.int .u32)))) (.list (.int .u32)))), (.st (.pair (.st (.pair .bool (.list (.int .u32)))) (.list (.int .u32))))], [(.st (.pair (.st (.pair .bool (.list (.int .u32)))) (.list (.int .u32))))], fun (x : ((Bool × (List Int)) × (List Int)) × ((Bool × (List Int)) × (List Int))) => ref03_Mul.f k x.1 x.2⟩), (24, ⟨[(.st (.pair (.st (.pair .bool (.list (.int .u32)))) (.list (.int .u32)))), (.st (.pair (.st (.pair .bool (.list (.int .u32)))) (.list (.int .u32))))], [(.st (.pair (.st (.pair .bool (.list (.int .u32)))) (.list (.int .u32)))), (.int .i64)], fun (x : ((Bool × (List Int)) × (List Int)) × ((Bool × (List Int)) × (List Int))) => ref03_Div.f k x.1 x.2⟩)]
def fgs : Nat → List (FuncId × FG) := fun _ => []
def fs (k : Nat) : FS := ⟨[(.st (.pair (.st (.pair .flt .flt)) (.pair (.st (.pair .flt .flt)) (.pair (.st (.pair (.st (.pair .bool (.list (.int .u32)))) (.list (.int .u32)))) (.st (.pair (.st (.pair .bool (.list (.int .u32)))) (.list (.int .u32))))))))], [.bool], fun (x : ((Nat × Nat) × (Nat × Nat) × ((Bool × (List Int)) × (List Int)) × ((Bool × (List Int)) × (List Int)))) => law04_ApproxEncloses.f k x⟩
theorem ok : FnOk Tryz.prog 5 121 Tryz.f5.results.toList (Tryz.f5.body.getD .skip) 1 := ⟨⟨Tryz.f5, by kernel_rfl, by kernel_rfl, by kernel_rfl, rfl, by kernel_rfl⟩, by kernel_rfl, by decide⟩
theorem c (k : Nat) : Contract Tryz.prog 5 (fs k) :=
  fn_sound (ps := [(.st (.pair (.st (.pair .flt .flt)) (.pair (.st (.pair .flt .flt)) (.pair (.st (.pair (.st (.pair .bool (.list (.int .u32)))) (.list (.int .u32)))) (.st (.pair (.st (.pair .bool (.list (.int .u32)))) (.list (.int .u32))))))))]) (rs := [.bool]) (pts := ptL) (fns := fns) (fgs := fgs) (fws := fws) (tys := tyTab) (main := fun k (x : ((Nat × Nat) × (Nat × Nat) × ((Bool × (List Int)) × (List Int)) × ((Bool × (List Int)) × (List Int)))) => law04_ApproxEncloses.f k x) ok mix tyOk ⟨⟨rfl, fun _ => rfl, fun k x => by kernel_rfl⟩, ⟨rfl, fun _ => rfl, fun k x => by kernel_rfl⟩, ⟨rfl, fun _ => rfl, fun k x => by kernel_rfl⟩, trivial⟩ (fun k x => by kernel_rfl) (fun k => ⟨⟨ref04_In.c k, approx_In.c k, approx_Sum.c k, approx_Diff.c k, approx_Prod.c k, approx_Quot.c k, ref03_Add.c k, ref03_Sub.c k, ref03_Mul.c k, ref03_Div.c k, trivial⟩, trivial, trivial⟩) k
end law04_ApproxEncloses
end Go.Proofs.YtaggjlegalmiaaaGreat
