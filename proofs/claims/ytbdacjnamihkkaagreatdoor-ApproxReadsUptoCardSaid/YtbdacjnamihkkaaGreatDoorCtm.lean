/- Contracts, printed by fgen.py. -/
import Derived.Test.YtbdacjnamihkkaaGreatDoorPlm
import Derived.Test.YtbdacjnamihkkaaGreatDoorProg
import Derived.Test.YtbdacjnamihkkaaGreatDoorF2
namespace Go.Proofs.YtbdacjnamihkkaaGreatDoor
open Go.FK
theorem mix : Tryz.prog.follows .mixedOrders = true ∧ ArrsOk Tryz.prog := ⟨by kernel_rfl, arrsB_ok (by kernel_rfl)⟩
def tyTab : List (TypeId × TI) := [(2, ⟨(.int .i64), 0, 0⟩), (3, ⟨(.int .i64), 0, 0⟩), (4, ⟨.bool, 0, 0⟩), (5, ⟨(.int .u8), 0, 0⟩), (9, ⟨.str, 0, 0⟩), (21, ⟨(.int .i32), 0, 0⟩), (23, ⟨(.int .i64), 0, 0⟩), (31, ⟨(.list (.int .u32)), 91, 4⟩), (33, ⟨(.st (.pair .bool (.list (.int .u32)))), 0, 0⟩), (35, ⟨(.st (.pair (.st (.pair .bool (.list (.int .u32)))) (.list (.int .u32)))), 0, 0⟩), (41, ⟨(.int .u64), 0, 0⟩), (69, ⟨(.int .u64), 0, 0⟩), (73, ⟨.nilI, 0, 0⟩), (91, ⟨(.int .u32), 0, 0⟩), (119, ⟨(.list (.int .u8)), 5, 1⟩), (129, ⟨(.list (.int .i64)), 3, 8⟩)]
theorem tyOk : tysB Tryz.prog tyTab = true := by kernel_rfl

namespace stringslite_HasPrefix
def fws : Nat → List (FuncId × FW) := fun _ => []
def ptL : List (Pt (TD [.bool])) := []
def fns : Nat → List (FuncId × FS) := fun _ => []
def fgs : Nat → List (FuncId × FG) := fun _ => []
def fs (k : Nat) : FS := ⟨[.str, .str], [.bool], fun (x : ByteArray × ByteArray) => stringslite_HasPrefix.f k x.1 x.2⟩
theorem ok : FnOk Tryz.prog 34 18 Tryz.f34.results.toList (Tryz.f34.body.getD .skip) 2 := ⟨⟨Tryz.f34, by kernel_rfl, by kernel_rfl, by kernel_rfl, rfl, by kernel_rfl⟩, by kernel_rfl, by decide⟩
theorem c (k : Nat) : Contract Tryz.prog 34 (fs k) :=
  fn_sound (ps := [.str, .str]) (rs := [.bool]) (pts := ptL) (fns := fns) (fgs := fgs) (fws := fws) (tys := tyTab) (main := fun k (x : ByteArray × ByteArray) => stringslite_HasPrefix.f k x.1 x.2) ok mix tyOk trivial (fun k x => by kernel_rfl) (fun _ => ⟨trivial, trivial, trivial⟩) k
end stringslite_HasPrefix

namespace stringslite_CutPrefix
def fws : Nat → List (FuncId × FW) := fun _ => []
def ptL : List (Pt (TD [.str, .bool])) := []
def fns : Nat → List (FuncId × FS) := fun k => [(34, ⟨[.str, .str], [.bool], fun (x : ByteArray × ByteArray) => stringslite_HasPrefix.f k x.1 x.2⟩)]
def fgs : Nat → List (FuncId × FG) := fun _ => []
def fs (k : Nat) : FS := ⟨[.str, .str], [.str, .bool], fun (x : ByteArray × ByteArray) => stringslite_CutPrefix.f k x.1 x.2⟩
theorem ok : FnOk Tryz.prog 14 15 Tryz.f14.results.toList (Tryz.f14.body.getD .skip) 2 := ⟨⟨Tryz.f14, by kernel_rfl, by kernel_rfl, by kernel_rfl, rfl, by kernel_rfl⟩, by kernel_rfl, by decide⟩
theorem c (k : Nat) : Contract Tryz.prog 14 (fs k) :=
  fn_sound (ps := [.str, .str]) (rs := [.str, .bool]) (pts := ptL) (fns := fns) (fgs := fgs) (fws := fws) (tys := tyTab) (main := fun k (x : ByteArray × ByteArray) => stringslite_CutPrefix.f k x.1 x.2) ok mix tyOk trivial (fun k x => by kernel_rfl) (fun k => ⟨⟨stringslite_HasPrefix.c k, trivial⟩, trivial, trivial⟩) k
end stringslite_CutPrefix

namespace strings_CutPrefix
def fws : Nat → List (FuncId × FW) := fun _ => []
def ptL : List (Pt (TD [.str, .bool])) := []
def fns : Nat → List (FuncId × FS) := fun k => [(14, ⟨[.str, .str], [.str, .bool], fun (x : ByteArray × ByteArray) => stringslite_CutPrefix.f k x.1 x.2⟩)]
def fgs : Nat → List (FuncId × FG) := fun _ => []
def fs (k : Nat) : FS := ⟨[.str, .str], [.str, .bool], fun (x : ByteArray × ByteArray) => strings_CutPrefix.f k x.1 x.2⟩
theorem ok : FnOk Tryz.prog 7 11 Tryz.f7.results.toList (Tryz.f7.body.getD .skip) 2 := ⟨⟨Tryz.f7, by kernel_rfl, by kernel_rfl, by kernel_rfl, rfl, by kernel_rfl⟩, by kernel_rfl, by decide⟩
theorem c (k : Nat) : Contract Tryz.prog 7 (fs k) :=
  fn_sound (ps := [.str, .str]) (rs := [.str, .bool]) (pts := ptL) (fns := fns) (fgs := fgs) (fws := fws) (tys := tyTab) (main := fun k (x : ByteArray × ByteArray) => strings_CutPrefix.f k x.1 x.2) ok mix tyOk trivial (fun k x => by kernel_rfl) (fun k => ⟨⟨stringslite_CutPrefix.c k, trivial⟩, trivial, trivial⟩) k
end strings_CutPrefix

namespace approx_digits
def s0 : PSig := ⟨0, [], [(0, .val .str), (4, .val (.int .i64))]⟩
def s9 : PSig := ⟨0, [], [(0, .val .str), (4, .val (.int .i64))]⟩
def fws : Nat → List (FuncId × FW) := fun _ => []
def ptL : List (Pt (TD [.str, .str])) := [⟨0, s0, fun k (x : ByteArray × Int) => approx_digits.p0 k x.1 x.2⟩, ⟨9, s9, fun k (x : ByteArray × Int) => approx_digits.p9 k x.1 x.2⟩]
def fns : Nat → List (FuncId × FS) := fun _ => []
def fgs : Nat → List (FuncId × FG) := fun _ => []
def fs (k : Nat) : FS := ⟨[.str], [.str, .str], fun (x : ByteArray) => approx_digits.f k x⟩
theorem ok : FnOk Tryz.prog 15 29 Tryz.f15.results.toList (Tryz.f15.body.getD .skip) 1 := ⟨⟨Tryz.f15, by kernel_rfl, by kernel_rfl, by kernel_rfl, rfl, by kernel_rfl⟩, by kernel_rfl, by decide⟩
theorem c (k : Nat) : Contract Tryz.prog 15 (fs k) :=
  fn_sound (ps := [.str]) (rs := [.str, .str]) (pts := ptL) (fns := fns) (fgs := fgs) (fws := fws) (tys := tyTab) (main := fun k (x : ByteArray) => approx_digits.f k x) ok mix tyOk ⟨⟨rfl, fun _ => rfl, fun k x => by kernel_rfl⟩, ⟨rfl, fun _ => rfl, fun k x => by kernel_rfl⟩, trivial⟩ (fun k x => by kernel_rfl) (fun _ => ⟨trivial, trivial, trivial⟩) k
end approx_digits

namespace strings_HasPrefix
def fws : Nat → List (FuncId × FW) := fun _ => []
def ptL : List (Pt (TD [.bool])) := []
def fns : Nat → List (FuncId × FS) := fun k => [(34, ⟨[.str, .str], [.bool], fun (x : ByteArray × ByteArray) => stringslite_HasPrefix.f k x.1 x.2⟩)]
def fgs : Nat → List (FuncId × FG) := fun _ => []
def fs (k : Nat) : FS := ⟨[.str, .str], [.bool], fun (x : ByteArray × ByteArray) => strings_HasPrefix.f k x.1 x.2⟩
theorem ok : FnOk Tryz.prog 35 8 Tryz.f35.results.toList (Tryz.f35.body.getD .skip) 2 := ⟨⟨Tryz.f35, by kernel_rfl, by kernel_rfl, by kernel_rfl, rfl, by kernel_rfl⟩, by kernel_rfl, by decide⟩
theorem c (k : Nat) : Contract Tryz.prog 35 (fs k) :=
  fn_sound (ps := [.str, .str]) (rs := [.bool]) (pts := ptL) (fns := fns) (fgs := fgs) (fws := fws) (tys := tyTab) (main := fun k (x : ByteArray × ByteArray) => strings_HasPrefix.f k x.1 x.2) ok mix tyOk trivial (fun k x => by kernel_rfl) (fun k => ⟨⟨stringslite_HasPrefix.c k, trivial⟩, trivial, trivial⟩) k
end strings_HasPrefix

namespace strings_trimLeftByte
def s0 : PSig := ⟨0, [], [(0, .val .str), (1, .val (.int .u8))]⟩
def s7 : PSig := ⟨0, [], [(0, .val .str)]⟩
def fws : Nat → List (FuncId × FW) := fun _ => []
def ptL : List (Pt (TD [.str])) := [⟨0, s0, fun k (x : ByteArray × Int) => strings_trimLeftByte.p0 k x.1 x.2⟩, ⟨7, s7, fun k (x : ByteArray) => strings_trimLeftByte.p7 k x⟩]
def fns : Nat → List (FuncId × FS) := fun _ => []
def fgs : Nat → List (FuncId × FG) := fun _ => []
def fs (k : Nat) : FS := ⟨[.str, (.int .u8)], [.str], fun (x : ByteArray × Int) => strings_trimLeftByte.f k x.1 x.2⟩
theorem ok : FnOk Tryz.prog 63 17 Tryz.f63.results.toList (Tryz.f63.body.getD .skip) 2 := ⟨⟨Tryz.f63, by kernel_rfl, by kernel_rfl, by kernel_rfl, rfl, by kernel_rfl⟩, by kernel_rfl, by decide⟩
theorem c (k : Nat) : Contract Tryz.prog 63 (fs k) :=
  fn_sound (ps := [.str, (.int .u8)]) (rs := [.str]) (pts := ptL) (fns := fns) (fgs := fgs) (fws := fws) (tys := tyTab) (main := fun k (x : ByteArray × Int) => strings_trimLeftByte.f k x.1 x.2) ok mix tyOk ⟨⟨rfl, fun _ => rfl, fun k x => by kernel_rfl⟩, ⟨rfl, fun _ => rfl, fun k x => by kernel_rfl⟩, trivial⟩ (fun k x => by kernel_rfl) (fun _ => ⟨trivial, trivial, trivial⟩) k
end strings_trimLeftByte

namespace utf8_decodeRuneInStringSlow
def fws : Nat → List (FuncId × FW) := fun _ => []
def ptL : List (Pt (TD [(.int .i32), (.int .i64)])) := []
def fns : Nat → List (FuncId × FS) := fun _ => []
def fgs : Nat → List (FuncId × FG) := fun _ => []
def fs (k : Nat) : FS := ⟨[.str], [(.int .i32), (.int .i64)], fun (x : ByteArray) => utf8_decodeRuneInStringSlow.f k x⟩
theorem ok : FnOk Tryz.prog 100 117 Tryz.f100.results.toList (Tryz.f100.body.getD .skip) 1 := ⟨⟨Tryz.f100, by kernel_rfl, by kernel_rfl, by kernel_rfl, rfl, by kernel_rfl⟩, by kernel_rfl, by decide⟩
theorem c (k : Nat) : Contract Tryz.prog 100 (fs k) :=
  fn_sound (ps := [.str]) (rs := [(.int .i32), (.int .i64)]) (pts := ptL) (fns := fns) (fgs := fgs) (fws := fws) (tys := tyTab) (main := fun k (x : ByteArray) => utf8_decodeRuneInStringSlow.f k x) ok mix tyOk trivial (fun k x => by kernel_rfl) (fun _ => ⟨trivial, trivial, trivial⟩) k
end utf8_decodeRuneInStringSlow

namespace utf8_DecodeRuneInString
def s7 : PSig := ⟨0, [], [(0, .val .str)]⟩
def fws : Nat → List (FuncId × FW) := fun _ => []
def ptL : List (Pt (TD [(.int .i32), (.int .i64)])) := [⟨7, s7, fun k (x : ByteArray) => utf8_DecodeRuneInString.p7 k x⟩]
def fns : Nat → List (FuncId × FS) := fun k => [(100, ⟨[.str], [(.int .i32), (.int .i64)], fun (x : ByteArray) => utf8_decodeRuneInStringSlow.f k x⟩)]
def fgs : Nat → List (FuncId × FG) := fun _ => []
def fs (k : Nat) : FS := ⟨[.str], [(.int .i32), (.int .i64)], fun (x : ByteArray) => utf8_DecodeRuneInString.f k x⟩
theorem ok : FnOk Tryz.prog 86 19 Tryz.f86.results.toList (Tryz.f86.body.getD .skip) 1 := ⟨⟨Tryz.f86, by kernel_rfl, by kernel_rfl, by kernel_rfl, rfl, by kernel_rfl⟩, by kernel_rfl, by decide⟩
theorem c (k : Nat) : Contract Tryz.prog 86 (fs k) :=
  fn_sound (ps := [.str]) (rs := [(.int .i32), (.int .i64)]) (pts := ptL) (fns := fns) (fgs := fgs) (fws := fws) (tys := tyTab) (main := fun k (x : ByteArray) => utf8_DecodeRuneInString.f k x) ok mix tyOk ⟨⟨rfl, fun _ => rfl, fun k x => by kernel_rfl⟩, trivial⟩ (fun k x => by kernel_rfl) (fun k => ⟨⟨utf8_decodeRuneInStringSlow.c k, trivial⟩, trivial, trivial⟩) k
end utf8_DecodeRuneInString

namespace bytealg_IndexByteString
theorem c (k : Nat) : Contract Tryz.prog 119 ⟨[.str, (.int .u8)], [(.int .i64)], fun (x : ByteArray × Int) => bytealg_IndexByteString.f k x.1 x.2⟩ :=
  indexByteString_contract (fn := Tryz.f119) (by kernel_rfl) (by kernel_rfl) (by kernel_rfl) (by kernel_rfl) (by kernel_rfl) (fun _ _ => rfl)
end bytealg_IndexByteString

namespace stringslite_IndexByte
def fws : Nat → List (FuncId × FW) := fun _ => []
def ptL : List (Pt (TD [(.int .i64)])) := []
def fns : Nat → List (FuncId × FS) := fun k => [(119, ⟨[.str, (.int .u8)], [(.int .i64)], fun (x : ByteArray × Int) => bytealg_IndexByteString.f k x.1 x.2⟩)]
def fgs : Nat → List (FuncId × FG) := fun _ => []
def fs (k : Nat) : FS := ⟨[.str, (.int .u8)], [(.int .i64)], fun (x : ByteArray × Int) => stringslite_IndexByte.f k x.1 x.2⟩
theorem ok : FnOk Tryz.prog 117 8 Tryz.f117.results.toList (Tryz.f117.body.getD .skip) 2 := ⟨⟨Tryz.f117, by kernel_rfl, by kernel_rfl, by kernel_rfl, rfl, by kernel_rfl⟩, by kernel_rfl, by decide⟩
theorem c (k : Nat) : Contract Tryz.prog 117 (fs k) :=
  fn_sound (ps := [.str, (.int .u8)]) (rs := [(.int .i64)]) (pts := ptL) (fns := fns) (fgs := fgs) (fws := fws) (tys := tyTab) (main := fun k (x : ByteArray × Int) => stringslite_IndexByte.f k x.1 x.2) ok mix tyOk trivial (fun k x => by kernel_rfl) (fun k => ⟨⟨bytealg_IndexByteString.c k, trivial⟩, trivial, trivial⟩) k
end stringslite_IndexByte

namespace strings_IndexByte
def fws : Nat → List (FuncId × FW) := fun _ => []
def ptL : List (Pt (TD [(.int .i64)])) := []
def fns : Nat → List (FuncId × FS) := fun k => [(117, ⟨[.str, (.int .u8)], [(.int .i64)], fun (x : ByteArray × Int) => stringslite_IndexByte.f k x.1 x.2⟩)]
def fgs : Nat → List (FuncId × FG) := fun _ => []
def fs (k : Nat) : FS := ⟨[.str, (.int .u8)], [(.int .i64)], fun (x : ByteArray × Int) => strings_IndexByte.f k x.1 x.2⟩
theorem ok : FnOk Tryz.prog 109 8 Tryz.f109.results.toList (Tryz.f109.body.getD .skip) 2 := ⟨⟨Tryz.f109, by kernel_rfl, by kernel_rfl, by kernel_rfl, rfl, by kernel_rfl⟩, by kernel_rfl, by decide⟩
theorem c (k : Nat) : Contract Tryz.prog 109 (fs k) :=
  fn_sound (ps := [.str, (.int .u8)]) (rs := [(.int .i64)]) (pts := ptL) (fns := fns) (fgs := fgs) (fws := fws) (tys := tyTab) (main := fun k (x : ByteArray × Int) => strings_IndexByte.f k x.1 x.2) ok mix tyOk trivial (fun k x => by kernel_rfl) (fun k => ⟨⟨stringslite_IndexByte.c k, trivial⟩, trivial, trivial⟩) k
end strings_IndexByte

namespace utf8_ValidRune
def s7 : PSig := ⟨0, [], [(0, .val (.int .i32))]⟩
def s11 : PSig := ⟨0, [], []⟩
def fws : Nat → List (FuncId × FW) := fun _ => []
def ptL : List (Pt (TD [.bool])) := [⟨7, s7, fun k (x : Int) => utf8_ValidRune.p7 k x⟩, ⟨11, s11, fun k (x : Unit) => utf8_ValidRune.p11 k x⟩]
def fns : Nat → List (FuncId × FS) := fun _ => []
def fgs : Nat → List (FuncId × FG) := fun _ => []
def fs (k : Nat) : FS := ⟨[(.int .i32)], [.bool], fun (x : Int) => utf8_ValidRune.f k x⟩
theorem ok : FnOk Tryz.prog 110 17 Tryz.f110.results.toList (Tryz.f110.body.getD .skip) 1 := ⟨⟨Tryz.f110, by kernel_rfl, by kernel_rfl, by kernel_rfl, rfl, by kernel_rfl⟩, by kernel_rfl, by decide⟩
theorem c (k : Nat) : Contract Tryz.prog 110 (fs k) :=
  fn_sound (ps := [(.int .i32)]) (rs := [.bool]) (pts := ptL) (fns := fns) (fgs := fgs) (fws := fws) (tys := tyTab) (main := fun k (x : Int) => utf8_ValidRune.f k x) ok mix tyOk ⟨⟨rfl, fun _ => rfl, fun k x => by kernel_rfl⟩, ⟨rfl, fun _ => rfl, fun k x => by kernel_rfl⟩, trivial⟩ (fun k x => by kernel_rfl) (fun _ => ⟨trivial, trivial, trivial⟩) k
end utf8_ValidRune

namespace bytealg_Cutover
def fws : Nat → List (FuncId × FW) := fun _ => []
def ptL : List (Pt (TD [(.int .i64)])) := []
def fns : Nat → List (FuncId × FS) := fun _ => []
def fgs : Nat → List (FuncId × FG) := fun _ => []
def fs (k : Nat) : FS := ⟨[(.int .i64)], [(.int .i64)], fun (x : Int) => bytealg_Cutover.f k x⟩
theorem ok : FnOk Tryz.prog 111 6 Tryz.f111.results.toList (Tryz.f111.body.getD .skip) 1 := ⟨⟨Tryz.f111, by kernel_rfl, by kernel_rfl, by kernel_rfl, rfl, by kernel_rfl⟩, by kernel_rfl, by decide⟩
theorem c (k : Nat) : Contract Tryz.prog 111 (fs k) :=
  fn_sound (ps := [(.int .i64)]) (rs := [(.int .i64)]) (pts := ptL) (fns := fns) (fgs := fgs) (fws := fws) (tys := tyTab) (main := fun k (x : Int) => bytealg_Cutover.f k x) ok mix tyOk trivial (fun k x => by kernel_rfl) (fun _ => ⟨trivial, trivial, trivial⟩) k
end bytealg_Cutover

namespace strings_IndexRune
def s73 : PSig := ⟨0, [], [(0, .val .str), (1, .val (.int .i32))]⟩
def s2 : PSig := ⟨0, [], [(0, .val .str), (7, .val .str), (8, .val (.int .i64)), (9, .val (.int .i64))]⟩
def s23 : PSig := ⟨0, [], [(0, .val .str), (7, .val .str), (8, .val (.int .i64)), (9, .val (.int .i64))]⟩
def s6 : PSig := ⟨0, [], [(0, .val .str), (7, .val .str), (8, .val (.int .i64)), (9, .val (.int .i64)), (12, .val (.int .i64))]⟩
def fws : Nat → List (FuncId × FW) := fun _ => []
def ptL : List (Pt (TD [(.int .i64)])) := [⟨73, s73, fun k (x : ByteArray × Int) => strings_IndexRune.p73 k x.1 x.2⟩, ⟨2, s2, fun k (x : ByteArray × ByteArray × Int × Int) => strings_IndexRune.p2 k x.1 x.2.1 x.2.2.1 x.2.2.2⟩, ⟨23, s23, fun k (x : ByteArray × ByteArray × Int × Int) => strings_IndexRune.p23 k x.1 x.2.1 x.2.2.1 x.2.2.2⟩, ⟨6, s6, fun k (x : ByteArray × ByteArray × Int × Int × Int) => strings_IndexRune.p6 k x.1 x.2.1 x.2.2.1 x.2.2.2.1 x.2.2.2.2⟩]
def fns : Nat → List (FuncId × FS) := fun k => [(109, ⟨[.str, (.int .u8)], [(.int .i64)], fun (x : ByteArray × Int) => strings_IndexByte.f k x.1 x.2⟩), (110, ⟨[(.int .i32)], [.bool], fun (x : Int) => utf8_ValidRune.f k x⟩)]
def fgs : Nat → List (FuncId × FG) := fun _ => []
def fs (k : Nat) : FS := ⟨[.str, (.int .i32)], [(.int .i64)], fun (x : ByteArray × Int) => strings_IndexRune.f k x.1 x.2⟩
theorem ok : FnOk Tryz.prog 101 187 Tryz.f101.results.toList (Tryz.f101.body.getD .skip) 2 := ⟨⟨Tryz.f101, by kernel_rfl, by kernel_rfl, by kernel_rfl, rfl, by kernel_rfl⟩, by kernel_rfl, by decide⟩
theorem c (k : Nat) : Contract Tryz.prog 101 (fs k) :=
  fn_sound (ps := [.str, (.int .i32)]) (rs := [(.int .i64)]) (pts := ptL) (fns := fns) (fgs := fgs) (fws := fws) (tys := tyTab) (main := fun k (x : ByteArray × Int) => strings_IndexRune.f k x.1 x.2) ok mix tyOk ⟨⟨rfl, fun _ => rfl, fun k x => by kernel_rfl⟩, ⟨rfl, fun _ => rfl, fun k x => by kernel_rfl⟩, ⟨rfl, fun _ => rfl, fun k x => by kernel_rfl⟩, ⟨rfl, fun _ => rfl, fun k x => by kernel_rfl⟩, trivial⟩ (fun k x => by kernel_rfl) (fun k => ⟨⟨strings_IndexByte.c k, utf8_ValidRune.c k, trivial⟩, trivial, trivial⟩) k
end strings_IndexRune

namespace strings_ContainsRune
def fws : Nat → List (FuncId × FW) := fun _ => []
def ptL : List (Pt (TD [.bool])) := []
def fns : Nat → List (FuncId × FS) := fun k => [(101, ⟨[.str, (.int .i32)], [(.int .i64)], fun (x : ByteArray × Int) => strings_IndexRune.f k x.1 x.2⟩)]
def fgs : Nat → List (FuncId × FG) := fun _ => []
def fs (k : Nat) : FS := ⟨[.str, (.int .i32)], [.bool], fun (x : ByteArray × Int) => strings_ContainsRune.f k x.1 x.2⟩
theorem ok : FnOk Tryz.prog 87 9 Tryz.f87.results.toList (Tryz.f87.body.getD .skip) 2 := ⟨⟨Tryz.f87, by kernel_rfl, by kernel_rfl, by kernel_rfl, rfl, by kernel_rfl⟩, by kernel_rfl, by decide⟩
theorem c (k : Nat) : Contract Tryz.prog 87 (fs k) :=
  fn_sound (ps := [.str, (.int .i32)]) (rs := [.bool]) (pts := ptL) (fns := fns) (fgs := fgs) (fws := fws) (tys := tyTab) (main := fun k (x : ByteArray × Int) => strings_ContainsRune.f k x.1 x.2) ok mix tyOk trivial (fun k x => by kernel_rfl) (fun k => ⟨⟨strings_IndexRune.c k, trivial⟩, trivial, trivial⟩) k
end strings_ContainsRune

namespace strings_trimLeftUnicode
def s0 : PSig := ⟨0, [], [(0, .val .str), (1, .val .str)]⟩
def s11 : PSig := ⟨0, [], [(0, .val .str)]⟩
def fws : Nat → List (FuncId × FW) := fun _ => []
def ptL : List (Pt (TD [.str])) := [⟨0, s0, fun k (x : ByteArray × ByteArray) => strings_trimLeftUnicode.p0 k x.1 x.2⟩, ⟨11, s11, fun k (x : ByteArray) => strings_trimLeftUnicode.p11 k x⟩]
def fns : Nat → List (FuncId × FS) := fun k => [(86, ⟨[.str], [(.int .i32), (.int .i64)], fun (x : ByteArray) => utf8_DecodeRuneInString.f k x⟩), (87, ⟨[.str, (.int .i32)], [.bool], fun (x : ByteArray × Int) => strings_ContainsRune.f k x.1 x.2⟩)]
def fgs : Nat → List (FuncId × FG) := fun _ => []
def fs (k : Nat) : FS := ⟨[.str, .str], [.str], fun (x : ByteArray × ByteArray) => strings_trimLeftUnicode.f k x.1 x.2⟩
theorem ok : FnOk Tryz.prog 66 23 Tryz.f66.results.toList (Tryz.f66.body.getD .skip) 2 := ⟨⟨Tryz.f66, by kernel_rfl, by kernel_rfl, by kernel_rfl, rfl, by kernel_rfl⟩, by kernel_rfl, by decide⟩
theorem c (k : Nat) : Contract Tryz.prog 66 (fs k) :=
  fn_sound (ps := [.str, .str]) (rs := [.str]) (pts := ptL) (fns := fns) (fgs := fgs) (fws := fws) (tys := tyTab) (main := fun k (x : ByteArray × ByteArray) => strings_trimLeftUnicode.f k x.1 x.2) ok mix tyOk ⟨⟨rfl, fun _ => rfl, fun k x => by kernel_rfl⟩, ⟨rfl, fun _ => rfl, fun k x => by kernel_rfl⟩, trivial⟩ (fun k x => by kernel_rfl) (fun k => ⟨⟨utf8_DecodeRuneInString.c k, strings_ContainsRune.c k, trivial⟩, trivial, trivial⟩) k
end strings_trimLeftUnicode

namespace strings_TrimLeft
def s5 : PSig := ⟨0, [], [(0, .val .str)]⟩
def s11 : PSig := ⟨0, [], [(0, .val .str), (1, .val .str)]⟩
def fws : Nat → List (FuncId × FW) := fun _ => []
def ptL : List (Pt (TD [.str])) := [⟨5, s5, fun k (x : ByteArray) => strings_TrimLeft.p5 k x⟩, ⟨11, s11, fun k (x : ByteArray × ByteArray) => strings_TrimLeft.p11 k x.1 x.2⟩]
def fns : Nat → List (FuncId × FS) := fun k => [(63, ⟨[.str, (.int .u8)], [.str], fun (x : ByteArray × Int) => strings_trimLeftByte.f k x.1 x.2⟩)]
def fgs : Nat → List (FuncId × FG) := fun _ => []
def fs (k : Nat) : FS := ⟨[.str, .str], [.str], fun (x : ByteArray × ByteArray) => strings_TrimLeft.f k x.1 x.2⟩
theorem ok : FnOk Tryz.prog 36 37 Tryz.f36.results.toList (Tryz.f36.body.getD .skip) 2 := ⟨⟨Tryz.f36, by kernel_rfl, by kernel_rfl, by kernel_rfl, rfl, by kernel_rfl⟩, by kernel_rfl, by decide⟩
theorem c (k : Nat) : Contract Tryz.prog 36 (fs k) :=
  fn_sound (ps := [.str, .str]) (rs := [.str]) (pts := ptL) (fns := fns) (fgs := fgs) (fws := fws) (tys := tyTab) (main := fun k (x : ByteArray × ByteArray) => strings_TrimLeft.f k x.1 x.2) ok mix tyOk ⟨⟨rfl, fun _ => rfl, fun k x => by kernel_rfl⟩, ⟨rfl, fun _ => rfl, fun k x => by kernel_rfl⟩, trivial⟩ (fun k x => by kernel_rfl) (fun k => ⟨⟨strings_trimLeftByte.c k, trivial⟩, trivial, trivial⟩) k
end strings_TrimLeft

namespace intconv_lower
def fws : Nat → List (FuncId × FW) := fun _ => []
def ptL : List (Pt (TD [(.int .u8)])) := []
def fns : Nat → List (FuncId × FS) := fun _ => []
def fgs : Nat → List (FuncId × FG) := fun _ => []
def fs (k : Nat) : FS := ⟨[(.int .u8)], [(.int .u8)], fun (x : Int) => intconv_lower.f k x⟩
theorem ok : FnOk Tryz.prog 113 5 Tryz.f113.results.toList (Tryz.f113.body.getD .skip) 1 := ⟨⟨Tryz.f113, by kernel_rfl, by kernel_rfl, by kernel_rfl, rfl, by kernel_rfl⟩, by kernel_rfl, by decide⟩
theorem c (k : Nat) : Contract Tryz.prog 113 (fs k) :=
  fn_sound (ps := [(.int .u8)]) (rs := [(.int .u8)]) (pts := ptL) (fns := fns) (fgs := fgs) (fws := fws) (tys := tyTab) (main := fun k (x : Int) => intconv_lower.f k x) ok mix tyOk trivial (fun k x => by kernel_rfl) (fun _ => ⟨trivial, trivial, trivial⟩) k
end intconv_lower

namespace intconv_underscoreOK
def s9 : PSig := ⟨0, [], [(0, .val .str), (3, .val (.int .i32)), (4, .val (.int .i64))]⟩
def s11 : PSig := ⟨0, [], [(0, .val .str), (3, .val (.int .i32)), (4, .val (.int .i64))]⟩
def s15 : PSig := ⟨0, [], [(0, .val .str)]⟩
def s0 : PSig := ⟨0, [], [(0, .val .str), (3, .val (.int .i32)), (4, .val (.int .i64)), (5, .val .bool)]⟩
def s27 : PSig := ⟨0, [], [(0, .val .str), (4, .val (.int .i64)), (5, .val .bool)]⟩
def s29 : PSig := ⟨0, [], [(0, .val .str), (3, .val (.int .i32)), (4, .val (.int .i64)), (5, .val .bool)]⟩
def s23 : PSig := ⟨0, [], [(0, .val .str), (3, .val (.int .i32)), (4, .val (.int .i64)), (5, .val .bool)]⟩
def fws : Nat → List (FuncId × FW) := fun _ => []
def ptL : List (Pt (TD [.bool])) := [⟨9, s9, fun k (x : ByteArray × Int × Int) => intconv_underscoreOK.p9 k x.1 x.2.1 x.2.2⟩, ⟨11, s11, fun k (x : ByteArray × Int × Int) => intconv_underscoreOK.p11 k x.1 x.2.1 x.2.2⟩, ⟨15, s15, fun k (x : ByteArray) => intconv_underscoreOK.p15 k x⟩, ⟨0, s0, fun k (x : ByteArray × Int × Int × Bool) => intconv_underscoreOK.p0 k x.1 x.2.1 x.2.2.1 x.2.2.2⟩, ⟨27, s27, fun k (x : ByteArray × Int × Bool) => intconv_underscoreOK.p27 k x.1 x.2.1 x.2.2⟩, ⟨29, s29, fun k (x : ByteArray × Int × Int × Bool) => intconv_underscoreOK.p29 k x.1 x.2.1 x.2.2.1 x.2.2.2⟩, ⟨23, s23, fun k (x : ByteArray × Int × Int × Bool) => intconv_underscoreOK.p23 k x.1 x.2.1 x.2.2.1 x.2.2.2⟩]
def fns : Nat → List (FuncId × FS) := fun k => [(113, ⟨[(.int .u8)], [(.int .u8)], fun (x : Int) => intconv_lower.f k x⟩)]
def fgs : Nat → List (FuncId × FG) := fun _ => []
def fs (k : Nat) : FS := ⟨[.str], [.bool], fun (x : ByteArray) => intconv_underscoreOK.f k x⟩
theorem ok : FnOk Tryz.prog 114 94 Tryz.f114.results.toList (Tryz.f114.body.getD .skip) 1 := ⟨⟨Tryz.f114, by kernel_rfl, by kernel_rfl, by kernel_rfl, rfl, by kernel_rfl⟩, by kernel_rfl, by decide⟩
theorem c (k : Nat) : Contract Tryz.prog 114 (fs k) :=
  fn_sound (ps := [.str]) (rs := [.bool]) (pts := ptL) (fns := fns) (fgs := fgs) (fws := fws) (tys := tyTab) (main := fun k (x : ByteArray) => intconv_underscoreOK.f k x) ok mix tyOk ⟨⟨rfl, fun _ => rfl, fun k x => by kernel_rfl⟩, ⟨rfl, fun _ => rfl, fun k x => by kernel_rfl⟩, ⟨rfl, fun _ => rfl, fun k x => by kernel_rfl⟩, ⟨rfl, fun _ => rfl, fun k x => by kernel_rfl⟩, ⟨rfl, fun _ => rfl, fun k x => by kernel_rfl⟩, ⟨rfl, fun _ => rfl, fun k x => by kernel_rfl⟩, ⟨rfl, fun _ => rfl, fun k x => by kernel_rfl⟩, trivial⟩ (fun k x => by kernel_rfl) (fun k => ⟨⟨intconv_lower.c k, trivial⟩, trivial, trivial⟩) k
end intconv_underscoreOK

namespace intconv_ParseUint
def s43 : PSig := ⟨0, [], [(0, .val .str), (1, .val (.int .i64)), (2, .val (.int .i64)), (8, .val .bool), (9, .val .str)]⟩
def s15 : PSig := ⟨0, [], [(0, .val .str), (1, .val (.int .i64)), (2, .val (.int .i64)), (8, .val .bool), (9, .val .str)]⟩
def s51 : PSig := ⟨0, [], [(0, .val .str), (1, .val (.int .i64)), (2, .val (.int .i64)), (8, .val .bool), (9, .val .str)]⟩
def s49 : PSig := ⟨0, [], []⟩
def s31 : PSig := ⟨0, [], [(0, .val .str), (2, .val (.int .i64)), (8, .val .bool), (9, .val .str)]⟩
def s65 : PSig := ⟨0, [], [(0, .val .str), (1, .val (.int .i64)), (2, .val (.int .i64)), (8, .val .bool), (9, .val .str), (10, .val (.int .u64))]⟩
def s37 : PSig := ⟨0, [], [(0, .val .str), (2, .val (.int .i64)), (8, .val .bool), (9, .val .str)]⟩
def s6 : PSig := ⟨0, [], [(1, .val (.int .i64)), (8, .val .bool), (9, .val .str), (10, .val (.int .u64)), (11, .val (.int .u64)), (12, .val .bool), (13, .val (.int .u64)), (99, .val (.list (.int .u8))), (100, .val (.int .i64)), (101, .val (.int .i64))]⟩
def s21 : PSig := ⟨0, [], [(0, .val .str), (2, .val (.int .i64)), (8, .val .bool), (9, .val .str)]⟩
def s85 : PSig := ⟨0, [], [(1, .val (.int .i64)), (8, .val .bool), (9, .val .str), (10, .val (.int .u64)), (11, .val (.int .u64)), (12, .val .bool), (13, .val (.int .u64)), (15, .val (.int .u8)), (99, .val (.list (.int .u8))), (100, .val (.int .i64)), (101, .val (.int .i64))]⟩
def s117 : PSig := ⟨0, [], [(13, .val (.int .u64))]⟩
def s107 : PSig := ⟨0, [], [(11, .val (.int .u64))]⟩
def s89 : PSig := ⟨0, [], [(1, .val (.int .i64)), (8, .val .bool), (9, .val .str), (10, .val (.int .u64)), (11, .val (.int .u64)), (12, .val .bool), (13, .val (.int .u64)), (15, .val (.int .u8)), (99, .val (.list (.int .u8))), (100, .val (.int .i64)), (101, .val (.int .i64))]⟩
def s79 : PSig := ⟨0, [], []⟩
def fws : Nat → List (FuncId × FW) := fun _ => []
def ptL : List (Pt (TD [(.int .u64), .nilI])) := [⟨43, s43, fun k (x : ByteArray × Int × Int × Bool × ByteArray) => intconv_ParseUint.p43 k x.1 x.2.1 x.2.2.1 x.2.2.2.1 x.2.2.2.2⟩, ⟨15, s15, fun k (x : ByteArray × Int × Int × Bool × ByteArray) => intconv_ParseUint.p15 k x.1 x.2.1 x.2.2.1 x.2.2.2.1 x.2.2.2.2⟩, ⟨51, s51, fun k (x : ByteArray × Int × Int × Bool × ByteArray) => intconv_ParseUint.p51 k x.1 x.2.1 x.2.2.1 x.2.2.2.1 x.2.2.2.2⟩, ⟨49, s49, fun k (x : Unit) => intconv_ParseUint.p49 k x⟩, ⟨31, s31, fun k (x : ByteArray × Int × Bool × ByteArray) => intconv_ParseUint.p31 k x.1 x.2.1 x.2.2.1 x.2.2.2⟩, ⟨65, s65, fun k (x : ByteArray × Int × Int × Bool × ByteArray × Int) => intconv_ParseUint.p65 k x.1 x.2.1 x.2.2.1 x.2.2.2.1 x.2.2.2.2.1 x.2.2.2.2.2⟩, ⟨37, s37, fun k (x : ByteArray × Int × Bool × ByteArray) => intconv_ParseUint.p37 k x.1 x.2.1 x.2.2.1 x.2.2.2⟩, ⟨6, s6, fun k (x : Int × Bool × ByteArray × Int × Int × Bool × Int × (List Int) × Int × Int) => intconv_ParseUint.p6 k x.1 x.2.1 x.2.2.1 x.2.2.2.1 x.2.2.2.2.1 x.2.2.2.2.2.1 x.2.2.2.2.2.2.1 x.2.2.2.2.2.2.2.1 x.2.2.2.2.2.2.2.2.1 x.2.2.2.2.2.2.2.2.2⟩, ⟨21, s21, fun k (x : ByteArray × Int × Bool × ByteArray) => intconv_ParseUint.p21 k x.1 x.2.1 x.2.2.1 x.2.2.2⟩, ⟨85, s85, fun k (x : Int × Bool × ByteArray × Int × Int × Bool × Int × Int × (List Int) × Int × Int) => intconv_ParseUint.p85 k x.1 x.2.1 x.2.2.1 x.2.2.2.1 x.2.2.2.2.1 x.2.2.2.2.2.1 x.2.2.2.2.2.2.1 x.2.2.2.2.2.2.2.1 x.2.2.2.2.2.2.2.2.1 x.2.2.2.2.2.2.2.2.2.1 x.2.2.2.2.2.2.2.2.2.2⟩, ⟨117, s117, fun k (x : Int) => intconv_ParseUint.p117 k x⟩, ⟨107, s107, fun k (x : Int) => intconv_ParseUint.p107 k x⟩, ⟨89, s89, fun k (x : Int × Bool × ByteArray × Int × Int × Bool × Int × Int × (List Int) × Int × Int) => intconv_ParseUint.p89 k x.1 x.2.1 x.2.2.1 x.2.2.2.1 x.2.2.2.2.1 x.2.2.2.2.2.1 x.2.2.2.2.2.2.1 x.2.2.2.2.2.2.2.1 x.2.2.2.2.2.2.2.2.1 x.2.2.2.2.2.2.2.2.2.1 x.2.2.2.2.2.2.2.2.2.2⟩, ⟨79, s79, fun k (x : Unit) => intconv_ParseUint.p79 k x⟩]
def fns : Nat → List (FuncId × FS) := fun k => [(113, ⟨[(.int .u8)], [(.int .u8)], fun (x : Int) => intconv_lower.f k x⟩), (114, ⟨[.str], [.bool], fun (x : ByteArray) => intconv_underscoreOK.f k x⟩)]
def fgs : Nat → List (FuncId × FG) := fun _ => []
def fs (k : Nat) : FS := ⟨[.str, (.int .i64), (.int .i64)], [(.int .u64), .nilI], fun (x : ByteArray × Int × Int) => intconv_ParseUint.f k x.1 x.2.1 x.2.2⟩
theorem ok : FnOk Tryz.prog 102 172 Tryz.f102.results.toList (Tryz.f102.body.getD .skip) 3 := ⟨⟨Tryz.f102, by kernel_rfl, by kernel_rfl, by kernel_rfl, rfl, by kernel_rfl⟩, by kernel_rfl, by decide⟩
theorem c (k : Nat) : Contract Tryz.prog 102 (fs k) :=
  fn_sound (ps := [.str, (.int .i64), (.int .i64)]) (rs := [(.int .u64), .nilI]) (pts := ptL) (fns := fns) (fgs := fgs) (fws := fws) (tys := tyTab) (main := fun k (x : ByteArray × Int × Int) => intconv_ParseUint.f k x.1 x.2.1 x.2.2) ok mix tyOk ⟨⟨rfl, fun _ => rfl, fun k x => by kernel_rfl⟩, ⟨rfl, fun _ => rfl, fun k x => by kernel_rfl⟩, ⟨rfl, fun _ => rfl, fun k x => by kernel_rfl⟩, ⟨rfl, fun _ => rfl, fun k x => by kernel_rfl⟩, ⟨rfl, fun _ => rfl, fun k x => by kernel_rfl⟩, ⟨rfl, fun _ => rfl, fun k x => by kernel_rfl⟩, ⟨rfl, fun _ => rfl, fun k x => by kernel_rfl⟩, ⟨rfl, fun _ => rfl, fun k x => by kernel_rfl⟩, ⟨rfl, fun _ => rfl, fun k x => by kernel_rfl⟩, ⟨rfl, fun _ => rfl, fun k x => by kernel_rfl⟩, ⟨rfl, fun _ => rfl, fun k x => by kernel_rfl⟩, ⟨rfl, fun _ => rfl, fun k x => by kernel_rfl⟩, ⟨rfl, fun _ => rfl, fun k x => by kernel_rfl⟩, ⟨rfl, fun _ => rfl, fun k x => by kernel_rfl⟩, trivial⟩ (fun k x => by kernel_rfl) (fun k => ⟨⟨intconv_lower.c k, intconv_underscoreOK.c k, trivial⟩, trivial, trivial⟩) k
end intconv_ParseUint

namespace intconv_ParseInt
def s21 : PSig := ⟨0, [], [(0, .val .str), (1, .val (.int .i64)), (2, .val (.int .i64)), (8, .val .bool)]⟩
def s33 : PSig := ⟨0, [], [(2, .val (.int .i64)), (8, .val .bool), (9, .val (.int .u64))]⟩
def s39 : PSig := ⟨0, [], [(8, .val .bool), (9, .val (.int .u64)), (10, .val (.int .u64))]⟩
def s43 : PSig := ⟨0, [], [(8, .val .bool), (9, .val (.int .u64))]⟩
def s49 : PSig := ⟨0, [], [(11, .val (.int .i64))]⟩
def fws : Nat → List (FuncId × FW) := fun _ => []
def ptL : List (Pt (TD [(.int .i64), .nilI])) := [⟨21, s21, fun k (x : ByteArray × Int × Int × Bool) => intconv_ParseInt.p21 k x.1 x.2.1 x.2.2.1 x.2.2.2⟩, ⟨33, s33, fun k (x : Int × Bool × Int) => intconv_ParseInt.p33 k x.1 x.2.1 x.2.2⟩, ⟨39, s39, fun k (x : Bool × Int × Int) => intconv_ParseInt.p39 k x.1 x.2.1 x.2.2⟩, ⟨43, s43, fun k (x : Bool × Int) => intconv_ParseInt.p43 k x.1 x.2⟩, ⟨49, s49, fun k (x : Int) => intconv_ParseInt.p49 k x⟩]
def fns : Nat → List (FuncId × FS) := fun k => [(102, ⟨[.str, (.int .i64), (.int .i64)], [(.int .u64), .nilI], fun (x : ByteArray × Int × Int) => intconv_ParseUint.f k x.1 x.2.1 x.2.2⟩)]
def fgs : Nat → List (FuncId × FG) := fun _ => []
def fs (k : Nat) : FS := ⟨[.str, (.int .i64), (.int .i64)], [(.int .i64), .nilI], fun (x : ByteArray × Int × Int) => intconv_ParseInt.f k x.1 x.2.1 x.2.2⟩
theorem ok : FnOk Tryz.prog 88 73 Tryz.f88.results.toList (Tryz.f88.body.getD .skip) 3 := ⟨⟨Tryz.f88, by kernel_rfl, by kernel_rfl, by kernel_rfl, rfl, by kernel_rfl⟩, by kernel_rfl, by decide⟩
theorem c (k : Nat) : Contract Tryz.prog 88 (fs k) :=
  fn_sound (ps := [.str, (.int .i64), (.int .i64)]) (rs := [(.int .i64), .nilI]) (pts := ptL) (fns := fns) (fgs := fgs) (fws := fws) (tys := tyTab) (main := fun k (x : ByteArray × Int × Int) => intconv_ParseInt.f k x.1 x.2.1 x.2.2) ok mix tyOk ⟨⟨rfl, fun _ => rfl, fun k x => by kernel_rfl⟩, ⟨rfl, fun _ => rfl, fun k x => by kernel_rfl⟩, ⟨rfl, fun _ => rfl, fun k x => by kernel_rfl⟩, ⟨rfl, fun _ => rfl, fun k x => by kernel_rfl⟩, ⟨rfl, fun _ => rfl, fun k x => by kernel_rfl⟩, trivial⟩ (fun k x => by kernel_rfl) (fun k => ⟨⟨intconv_ParseUint.c k, trivial⟩, trivial, trivial⟩) k
end intconv_ParseInt

namespace intconv_Atoi
def s11 : PSig := ⟨0, [], [(0, .val .str), (5, .val .str)]⟩
def s0 : PSig := ⟨0, [], [(5, .val .str), (6, .val (.int .i64)), (47, .val (.list (.int .u8))), (48, .val (.int .i64)), (49, .val (.int .i64))]⟩
def s41 : PSig := ⟨0, [], [(0, .val .str)]⟩
def s39 : PSig := ⟨0, [], [(6, .val (.int .i64))]⟩
def fws : Nat → List (FuncId × FW) := fun _ => []
def ptL : List (Pt (TD [(.int .i64), .nilI])) := [⟨11, s11, fun k (x : ByteArray × ByteArray) => intconv_Atoi.p11 k x.1 x.2⟩, ⟨0, s0, fun k (x : ByteArray × Int × (List Int) × Int × Int) => intconv_Atoi.p0 k x.1 x.2.1 x.2.2.1 x.2.2.2.1 x.2.2.2.2⟩, ⟨41, s41, fun k (x : ByteArray) => intconv_Atoi.p41 k x⟩, ⟨39, s39, fun k (x : Int) => intconv_Atoi.p39 k x⟩]
def fns : Nat → List (FuncId × FS) := fun k => [(88, ⟨[.str, (.int .i64), (.int .i64)], [(.int .i64), .nilI], fun (x : ByteArray × Int × Int) => intconv_ParseInt.f k x.1 x.2.1 x.2.2⟩)]
def fgs : Nat → List (FuncId × FG) := fun _ => []
def fs (k : Nat) : FS := ⟨[.str], [(.int .i64), .nilI], fun (x : ByteArray) => intconv_Atoi.f k x⟩
theorem ok : FnOk Tryz.prog 67 77 Tryz.f67.results.toList (Tryz.f67.body.getD .skip) 1 := ⟨⟨Tryz.f67, by kernel_rfl, by kernel_rfl, by kernel_rfl, rfl, by kernel_rfl⟩, by kernel_rfl, by decide⟩
theorem c (k : Nat) : Contract Tryz.prog 67 (fs k) :=
  fn_sound (ps := [.str]) (rs := [(.int .i64), .nilI]) (pts := ptL) (fns := fns) (fgs := fgs) (fws := fws) (tys := tyTab) (main := fun k (x : ByteArray) => intconv_Atoi.f k x) ok mix tyOk ⟨⟨rfl, fun _ => rfl, fun k x => by kernel_rfl⟩, ⟨rfl, fun _ => rfl, fun k x => by kernel_rfl⟩, ⟨rfl, fun _ => rfl, fun k x => by kernel_rfl⟩, ⟨rfl, fun _ => rfl, fun k x => by kernel_rfl⟩, trivial⟩ (fun k x => by kernel_rfl) (fun k => ⟨⟨intconv_ParseInt.c k, trivial⟩, trivial, trivial⟩) k
end intconv_Atoi

namespace stringslite_Clone
def fws : Nat → List (FuncId × FW) := fun _ => []
def ptL : List (Pt (TD [.str])) := []
def fns : Nat → List (FuncId × FS) := fun _ => []
def fgs : Nat → List (FuncId × FG) := fun _ => []
def fs (k : Nat) : FS := ⟨[.str], [.str], fun (x : ByteArray) => stringslite_Clone.f k x⟩
theorem ok : FnOk Tryz.prog 103 18 Tryz.f103.results.toList (Tryz.f103.body.getD .skip) 1 := ⟨⟨Tryz.f103, by kernel_rfl, by kernel_rfl, by kernel_rfl, rfl, by kernel_rfl⟩, by kernel_rfl, by decide⟩
theorem c (k : Nat) : Contract Tryz.prog 103 (fs k) :=
  fn_sound (ps := [.str]) (rs := [.str]) (pts := ptL) (fns := fns) (fgs := fgs) (fws := fws) (tys := tyTab) (main := fun k (x : ByteArray) => stringslite_Clone.f k x) ok mix tyOk trivial (fun k x => by kernel_rfl) (fun _ => ⟨trivial, trivial, trivial⟩) k
end stringslite_Clone

namespace intconv_small
def fws : Nat → List (FuncId × FW) := fun _ => []
def ptL : List (Pt (TD [.str])) := []
def fns : Nat → List (FuncId × FS) := fun _ => []
def fgs : Nat → List (FuncId × FG) := fun _ => []
def fs (k : Nat) : FS := ⟨[(.int .i64)], [.str], fun (x : Int) => intconv_small.f k x⟩
theorem ok : FnOk Tryz.prog 120 15 Tryz.f120.results.toList (Tryz.f120.body.getD .skip) 1 := ⟨⟨Tryz.f120, by kernel_rfl, by kernel_rfl, by kernel_rfl, rfl, by kernel_rfl⟩, by kernel_rfl, by decide⟩
theorem c (k : Nat) : Contract Tryz.prog 120 (fs k) :=
  fn_sound (ps := [(.int .i64)]) (rs := [.str]) (pts := ptL) (fns := fns) (fgs := fgs) (fws := fws) (tys := tyTab) (main := fun k (x : Int) => intconv_small.f k x) ok mix tyOk trivial (fun k x => by kernel_rfl) (fun _ => ⟨trivial, trivial, trivial⟩) k
end intconv_small

namespace bits_Len64
def s9 : PSig := ⟨0, [], [(0, .val (.int .u64)), (2, .val (.int .i64))]⟩
def s15 : PSig := ⟨0, [], [(0, .val (.int .u64)), (2, .val (.int .i64))]⟩
def s21 : PSig := ⟨0, [], [(0, .val (.int .u64)), (2, .val (.int .i64))]⟩
def fws : Nat → List (FuncId × FW) := fun _ => []
def ptL : List (Pt (TD [(.int .i64)])) := [⟨9, s9, fun k (x : Int × Int) => bits_Len64.p9 k x.1 x.2⟩, ⟨15, s15, fun k (x : Int × Int) => bits_Len64.p15 k x.1 x.2⟩, ⟨21, s21, fun k (x : Int × Int) => bits_Len64.p21 k x.1 x.2⟩]
def fns : Nat → List (FuncId × FS) := fun _ => []
def fgs : Nat → List (FuncId × FG) := fun _ => []
def fs (k : Nat) : FS := ⟨[(.int .u64)], [(.int .i64)], fun (x : Int) => bits_Len64.f k x⟩
theorem ok : FnOk Tryz.prog 125 25 Tryz.f125.results.toList (Tryz.f125.body.getD .skip) 1 := ⟨⟨Tryz.f125, by kernel_rfl, by kernel_rfl, by kernel_rfl, rfl, by kernel_rfl⟩, by kernel_rfl, by decide⟩
theorem c (k : Nat) : Contract Tryz.prog 125 (fs k) :=
  fn_sound (ps := [(.int .u64)]) (rs := [(.int .i64)]) (pts := ptL) (fns := fns) (fgs := fgs) (fws := fws) (tys := tyTab) (main := fun k (x : Int) => bits_Len64.f k x) ok mix tyOk ⟨⟨rfl, fun _ => rfl, fun k x => by kernel_rfl⟩, ⟨rfl, fun _ => rfl, fun k x => by kernel_rfl⟩, ⟨rfl, fun _ => rfl, fun k x => by kernel_rfl⟩, trivial⟩ (fun k x => by kernel_rfl) (fun _ => ⟨trivial, trivial, trivial⟩) k
end bits_Len64

namespace intconv_log10Pow2
def fws : Nat → List (FuncId × FW) := fun _ => []
def ptL : List (Pt (TD [(.int .i64)])) := []
def fns : Nat → List (FuncId × FS) := fun _ => []
def fgs : Nat → List (FuncId × FG) := fun _ => []
def fs (k : Nat) : FS := ⟨[(.int .i64)], [(.int .i64)], fun (x : Int) => intconv_log10Pow2.f k x⟩
theorem ok : FnOk Tryz.prog 124 6 Tryz.f124.results.toList (Tryz.f124.body.getD .skip) 1 := ⟨⟨Tryz.f124, by kernel_rfl, by kernel_rfl, by kernel_rfl, rfl, by kernel_rfl⟩, by kernel_rfl, by decide⟩
theorem c (k : Nat) : Contract Tryz.prog 124 (fs k) :=
  fn_sound (ps := [(.int .i64)]) (rs := [(.int .i64)]) (pts := ptL) (fns := fns) (fgs := fgs) (fws := fws) (tys := tyTab) (main := fun k (x : Int) => intconv_log10Pow2.f k x) ok mix tyOk trivial (fun k x => by kernel_rfl) (fun _ => ⟨trivial, trivial, trivial⟩) k
end intconv_log10Pow2

namespace intconv_bool2_int_
def fws : Nat → List (FuncId × FW) := fun _ => []
def ptL : List (Pt (TD [(.int .i64)])) := []
def fns : Nat → List (FuncId × FS) := fun _ => []
def fgs : Nat → List (FuncId × FG) := fun _ => []
def fs (k : Nat) : FS := ⟨[.bool], [(.int .i64)], fun (x : Bool) => intconv_bool2_int_.f k x⟩
theorem ok : FnOk Tryz.prog 126 4 Tryz.f126.results.toList (Tryz.f126.body.getD .skip) 1 := ⟨⟨Tryz.f126, by kernel_rfl, by kernel_rfl, by kernel_rfl, rfl, by kernel_rfl⟩, by kernel_rfl, by decide⟩
theorem c (k : Nat) : Contract Tryz.prog 126 (fs k) :=
  fn_sound (ps := [.bool]) (rs := [(.int .i64)]) (pts := ptL) (fns := fns) (fgs := fgs) (fws := fws) (tys := tyTab) (main := fun k (x : Bool) => intconv_bool2_int_.f k x) ok mix tyOk trivial (fun k x => by kernel_rfl) (fun _ => ⟨trivial, trivial, trivial⟩) k
end intconv_bool2_int_

namespace intconv_isPowerOfTwo
def fws : Nat → List (FuncId × FW) := fun _ => []
def ptL : List (Pt (TD [.bool])) := []
def fns : Nat → List (FuncId × FS) := fun _ => []
def fgs : Nat → List (FuncId × FG) := fun _ => []
def fs (k : Nat) : FS := ⟨[(.int .i64)], [.bool], fun (x : Int) => intconv_isPowerOfTwo.f k x⟩
theorem ok : FnOk Tryz.prog 127 8 Tryz.f127.results.toList (Tryz.f127.body.getD .skip) 1 := ⟨⟨Tryz.f127, by kernel_rfl, by kernel_rfl, by kernel_rfl, rfl, by kernel_rfl⟩, by kernel_rfl, by decide⟩
theorem c (k : Nat) : Contract Tryz.prog 127 (fs k) :=
  fn_sound (ps := [(.int .i64)]) (rs := [.bool]) (pts := ptL) (fns := fns) (fgs := fgs) (fws := fws) (tys := tyTab) (main := fun k (x : Int) => intconv_isPowerOfTwo.f k x) ok mix tyOk trivial (fun k x => by kernel_rfl) (fun _ => ⟨trivial, trivial, trivial⟩) k
end intconv_isPowerOfTwo

namespace bits_TrailingZeros32
def fws : Nat → List (FuncId × FW) := fun _ => []
def ptL : List (Pt (TD [(.int .i64)])) := []
def fns : Nat → List (FuncId × FS) := fun _ => []
def fgs : Nat → List (FuncId × FG) := fun _ => []
def fs (k : Nat) : FS := ⟨[(.int .u32)], [(.int .i64)], fun (x : Int) => bits_TrailingZeros32.f k x⟩
theorem ok : FnOk Tryz.prog 129 14 Tryz.f129.results.toList (Tryz.f129.body.getD .skip) 1 := ⟨⟨Tryz.f129, by kernel_rfl, by kernel_rfl, by kernel_rfl, rfl, by kernel_rfl⟩, by kernel_rfl, by decide⟩
theorem c (k : Nat) : Contract Tryz.prog 129 (fs k) :=
  fn_sound (ps := [(.int .u32)]) (rs := [(.int .i64)]) (pts := ptL) (fns := fns) (fgs := fgs) (fws := fws) (tys := tyTab) (main := fun k (x : Int) => bits_TrailingZeros32.f k x) ok mix tyOk trivial (fun k x => by kernel_rfl) (fun _ => ⟨trivial, trivial, trivial⟩) k
end bits_TrailingZeros32

namespace bits_TrailingZeros64
def fws : Nat → List (FuncId × FW) := fun _ => []
def ptL : List (Pt (TD [(.int .i64)])) := []
def fns : Nat → List (FuncId × FS) := fun _ => []
def fgs : Nat → List (FuncId × FG) := fun _ => []
def fs (k : Nat) : FS := ⟨[(.int .u64)], [(.int .i64)], fun (x : Int) => bits_TrailingZeros64.f k x⟩
theorem ok : FnOk Tryz.prog 130 14 Tryz.f130.results.toList (Tryz.f130.body.getD .skip) 1 := ⟨⟨Tryz.f130, by kernel_rfl, by kernel_rfl, by kernel_rfl, rfl, by kernel_rfl⟩, by kernel_rfl, by decide⟩
theorem c (k : Nat) : Contract Tryz.prog 130 (fs k) :=
  fn_sound (ps := [(.int .u64)]) (rs := [(.int .i64)]) (pts := ptL) (fns := fns) (fgs := fgs) (fws := fws) (tys := tyTab) (main := fun k (x : Int) => bits_TrailingZeros64.f k x) ok mix tyOk trivial (fun k x => by kernel_rfl) (fun _ => ⟨trivial, trivial, trivial⟩) k
end bits_TrailingZeros64

namespace bits_TrailingZeros
def fws : Nat → List (FuncId × FW) := fun _ => []
def ptL : List (Pt (TD [(.int .i64)])) := []
def fns : Nat → List (FuncId × FS) := fun k => [(130, ⟨[(.int .u64)], [(.int .i64)], fun (x : Int) => bits_TrailingZeros64.f k x⟩)]
def fgs : Nat → List (FuncId × FG) := fun _ => []
def fs (k : Nat) : FS := ⟨[(.int .u64)], [(.int .i64)], fun (x : Int) => bits_TrailingZeros.f k x⟩
theorem ok : FnOk Tryz.prog 128 8 Tryz.f128.results.toList (Tryz.f128.body.getD .skip) 1 := ⟨⟨Tryz.f128, by kernel_rfl, by kernel_rfl, by kernel_rfl, rfl, by kernel_rfl⟩, by kernel_rfl, by decide⟩
theorem c (k : Nat) : Contract Tryz.prog 128 (fs k) :=
  fn_sound (ps := [(.int .u64)]) (rs := [(.int .i64)]) (pts := ptL) (fns := fns) (fgs := fgs) (fws := fws) (tys := tyTab) (main := fun k (x : Int) => bits_TrailingZeros.f k x) ok mix tyOk trivial (fun k x => by kernel_rfl) (fun k => ⟨⟨bits_TrailingZeros64.c k, trivial⟩, trivial, trivial⟩) k
end bits_TrailingZeros

namespace intconv_FormatInt
def s9 : PSig := ⟨0, [], [(0, .val (.int .i64))]⟩
def fws : Nat → List (FuncId × FW) := fun _ => []
def ptL : List (Pt (TD [.str])) := [⟨9, s9, fun k (x : Int) => intconv_FormatInt.p9 k x⟩]
def fns : Nat → List (FuncId × FS) := fun k => [(120, ⟨[(.int .i64)], [.str], fun (x : Int) => intconv_small.f k x⟩)]
def fgs : Nat → List (FuncId × FG) := fun _ => []
def fs (k : Nat) : FS := ⟨[(.int .i64), (.int .i64)], [.str], fun (x : Int × Int) => intconv_FormatInt.f k x.1 x.2⟩
theorem ok : FnOk Tryz.prog 118 54 Tryz.f118.results.toList (Tryz.f118.body.getD .skip) 2 := ⟨⟨Tryz.f118, by kernel_rfl, by kernel_rfl, by kernel_rfl, rfl, by kernel_rfl⟩, by kernel_rfl, by decide⟩
theorem c (k : Nat) : Contract Tryz.prog 118 (fs k) :=
  fn_sound (ps := [(.int .i64), (.int .i64)]) (rs := [.str]) (pts := ptL) (fns := fns) (fgs := fgs) (fws := fws) (tys := tyTab) (main := fun k (x : Int × Int) => intconv_FormatInt.f k x.1 x.2) ok mix tyOk ⟨⟨rfl, fun _ => rfl, fun k x => by kernel_rfl⟩, trivial⟩ (fun k x => by kernel_rfl) (fun k => ⟨⟨intconv_small.c k, trivial⟩, trivial, trivial⟩) k
end intconv_FormatInt

namespace intconv_Itoa
def fws : Nat → List (FuncId × FW) := fun _ => []
def ptL : List (Pt (TD [.str])) := []
def fns : Nat → List (FuncId × FS) := fun k => [(118, ⟨[(.int .i64), (.int .i64)], [.str], fun (x : Int × Int) => intconv_FormatInt.f k x.1 x.2⟩)]
def fgs : Nat → List (FuncId × FG) := fun _ => []
def fs (k : Nat) : FS := ⟨[(.int .i64)], [.str], fun (x : Int) => intconv_Itoa.f k x⟩
theorem ok : FnOk Tryz.prog 115 5 Tryz.f115.results.toList (Tryz.f115.body.getD .skip) 1 := ⟨⟨Tryz.f115, by kernel_rfl, by kernel_rfl, by kernel_rfl, rfl, by kernel_rfl⟩, by kernel_rfl, by decide⟩
theorem c (k : Nat) : Contract Tryz.prog 115 (fs k) :=
  fn_sound (ps := [(.int .i64)]) (rs := [.str]) (pts := ptL) (fns := fns) (fgs := fgs) (fws := fws) (tys := tyTab) (main := fun k (x : Int) => intconv_Itoa.f k x) ok mix tyOk trivial (fun k x => by kernel_rfl) (fun k => ⟨⟨intconv_FormatInt.c k, trivial⟩, trivial, trivial⟩) k
end intconv_Itoa

namespace strconv_Itoa
def fws : Nat → List (FuncId × FW) := fun _ => []
def ptL : List (Pt (TD [.str])) := []
def fns : Nat → List (FuncId × FS) := fun k => [(115, ⟨[(.int .i64)], [.str], fun (x : Int) => intconv_Itoa.f k x⟩)]
def fgs : Nat → List (FuncId × FG) := fun _ => []
def fs (k : Nat) : FS := ⟨[(.int .i64)], [.str], fun (x : Int) => strconv_Itoa.f k x⟩
theorem ok : FnOk Tryz.prog 105 5 Tryz.f105.results.toList (Tryz.f105.body.getD .skip) 1 := ⟨⟨Tryz.f105, by kernel_rfl, by kernel_rfl, by kernel_rfl, rfl, by kernel_rfl⟩, by kernel_rfl, by decide⟩
theorem c (k : Nat) : Contract Tryz.prog 105 (fs k) :=
  fn_sound (ps := [(.int .i64)]) (rs := [.str]) (pts := ptL) (fns := fns) (fgs := fgs) (fws := fws) (tys := tyTab) (main := fun k (x : Int) => strconv_Itoa.f k x) ok mix tyOk trivial (fun k x => by kernel_rfl) (fun k => ⟨⟨intconv_Itoa.c k, trivial⟩, trivial, trivial⟩) k
end strconv_Itoa

namespace strconv_Atoi
def fws : Nat → List (FuncId × FW) := fun _ => []
def ptL : List (Pt (TD [(.int .i64), .nilI])) := []
def fns : Nat → List (FuncId × FS) := fun k => [(67, ⟨[.str], [(.int .i64), .nilI], fun (x : ByteArray) => intconv_Atoi.f k x⟩)]
def fgs : Nat → List (FuncId × FG) := fun _ => []
def fs (k : Nat) : FS := ⟨[.str], [(.int .i64), .nilI], fun (x : ByteArray) => strconv_Atoi.f k x⟩
theorem ok : FnOk Tryz.prog 37 18 Tryz.f37.results.toList (Tryz.f37.body.getD .skip) 1 := ⟨⟨Tryz.f37, by kernel_rfl, by kernel_rfl, by kernel_rfl, rfl, by kernel_rfl⟩, by kernel_rfl, by decide⟩
theorem c (k : Nat) : Contract Tryz.prog 37 (fs k) :=
  fn_sound (ps := [.str]) (rs := [(.int .i64), .nilI]) (pts := ptL) (fns := fns) (fgs := fgs) (fws := fws) (tys := tyTab) (main := fun k (x : ByteArray) => strconv_Atoi.f k x) ok mix tyOk trivial (fun k x => by kernel_rfl) (fun k => ⟨⟨intconv_Atoi.c k, trivial⟩, trivial, trivial⟩) k
end strconv_Atoi

namespace approx_exponent
def s9 : PSig := ⟨0, [], [(0, .val .str), (4, .val (.int .i64))]⟩
def s11 : PSig := ⟨0, [], [(0, .val .str), (4, .val (.int .i64))]⟩
def s17 : PSig := ⟨0, [], []⟩
def fws : Nat → List (FuncId × FW) := fun _ => []
def ptL : List (Pt (TD [(.int .i64), .bool])) := [⟨9, s9, fun k (x : ByteArray × Int) => approx_exponent.p9 k x.1 x.2⟩, ⟨11, s11, fun k (x : ByteArray × Int) => approx_exponent.p11 k x.1 x.2⟩, ⟨17, s17, fun k (x : Unit) => approx_exponent.p17 k x⟩]
def fns : Nat → List (FuncId × FS) := fun k => [(35, ⟨[.str, .str], [.bool], fun (x : ByteArray × ByteArray) => strings_HasPrefix.f k x.1 x.2⟩), (15, ⟨[.str], [.str, .str], fun (x : ByteArray) => approx_digits.f k x⟩), (36, ⟨[.str, .str], [.str], fun (x : ByteArray × ByteArray) => strings_TrimLeft.f k x.1 x.2⟩), (37, ⟨[.str], [(.int .i64), .nilI], fun (x : ByteArray) => strconv_Atoi.f k x⟩)]
def fgs : Nat → List (FuncId × FG) := fun _ => []
def fs (k : Nat) : FS := ⟨[.str], [(.int .i64), .bool], fun (x : ByteArray) => approx_exponent.f k x⟩
theorem ok : FnOk Tryz.prog 16 46 Tryz.f16.results.toList (Tryz.f16.body.getD .skip) 1 := ⟨⟨Tryz.f16, by kernel_rfl, by kernel_rfl, by kernel_rfl, rfl, by kernel_rfl⟩, by kernel_rfl, by decide⟩
theorem c (k : Nat) : Contract Tryz.prog 16 (fs k) :=
  fn_sound (ps := [.str]) (rs := [(.int .i64), .bool]) (pts := ptL) (fns := fns) (fgs := fgs) (fws := fws) (tys := tyTab) (main := fun k (x : ByteArray) => approx_exponent.f k x) ok mix tyOk ⟨⟨rfl, fun _ => rfl, fun k x => by kernel_rfl⟩, ⟨rfl, fun _ => rfl, fun k x => by kernel_rfl⟩, ⟨rfl, fun _ => rfl, fun k x => by kernel_rfl⟩, trivial⟩ (fun k x => by kernel_rfl) (fun k => ⟨⟨strings_HasPrefix.c k, approx_digits.c k, strings_TrimLeft.c k, strconv_Atoi.c k, trivial⟩, trivial, trivial⟩) k
end approx_exponent

namespace nat_trim
def s0 : PSig := ⟨0, [], [(0, .val (.list (.int .u32))), (3, .val (.int .i64))]⟩
def s9 : PSig := ⟨0, [], [(0, .val (.list (.int .u32))), (3, .val (.int .i64))]⟩
def fws : Nat → List (FuncId × FW) := fun _ => []
def ptL : List (Pt (TD [(.list (.int .u32))])) := [⟨0, s0, fun k (x : (List Int) × Int) => nat_trim.p0 k x.1 x.2⟩, ⟨9, s9, fun k (x : (List Int) × Int) => nat_trim.p9 k x.1 x.2⟩]
def fns : Nat → List (FuncId × FS) := fun _ => []
def fgs : Nat → List (FuncId × FG) := fun _ => []
def fs (k : Nat) : FS := ⟨[(.list (.int .u32))], [(.list (.int .u32))], fun (x : (List Int)) => nat_trim.f k x⟩
theorem ok : FnOk Tryz.prog 73 21 Tryz.f73.results.toList (Tryz.f73.body.getD .skip) 1 := ⟨⟨Tryz.f73, by kernel_rfl, by kernel_rfl, by kernel_rfl, rfl, by kernel_rfl⟩, by kernel_rfl, by decide⟩
theorem c (k : Nat) : Contract Tryz.prog 73 (fs k) :=
  fn_sound (ps := [(.list (.int .u32))]) (rs := [(.list (.int .u32))]) (pts := ptL) (fns := fns) (fgs := fgs) (fws := fws) (tys := tyTab) (main := fun k (x : (List Int)) => nat_trim.f k x) ok mix tyOk ⟨⟨rfl, fun _ => rfl, fun k x => by kernel_rfl⟩, ⟨rfl, fun _ => rfl, fun k x => by kernel_rfl⟩, trivial⟩ (fun k x => by kernel_rfl) (fun _ => ⟨trivial, trivial, trivial⟩) k
end nat_trim

namespace nat_own
def fws : Nat → List (FuncId × FW) := fun _ => []
def ptL : List (Pt (TD [(.list (.int .u32))])) := []
def fns : Nat → List (FuncId × FS) := fun k => [(73, ⟨[(.list (.int .u32))], [(.list (.int .u32))], fun (x : (List Int)) => nat_trim.f k x⟩)]
def fgs : Nat → List (FuncId × FG) := fun _ => []
def fs (k : Nat) : FS := ⟨[(.list (.int .u32))], [(.list (.int .u32))], fun (x : (List Int)) => nat_own.f k x⟩
theorem ok : FnOk Tryz.prog 74 16 Tryz.f74.results.toList (Tryz.f74.body.getD .skip) 1 := ⟨⟨Tryz.f74, by kernel_rfl, by kernel_rfl, by kernel_rfl, rfl, by kernel_rfl⟩, by kernel_rfl, by decide⟩
theorem c (k : Nat) : Contract Tryz.prog 74 (fs k) :=
  fn_sound (ps := [(.list (.int .u32))]) (rs := [(.list (.int .u32))]) (pts := ptL) (fns := fns) (fgs := fgs) (fws := fws) (tys := tyTab) (main := fun k (x : (List Int)) => nat_own.f k x) ok mix tyOk trivial (fun k x => by kernel_rfl) (fun k => ⟨⟨nat_trim.c k, trivial⟩, trivial, trivial⟩) k
def fw (k : Nat) : FW := ⟨[(.list (.int .u32))], 91, (.int .u32), false, fun (x : (List Int)) => nat_own.f k x⟩
def ptW : List (Pt (List (Ty.D (.int .u32)))) := []
theorem cw (k : Nat) : ContractW Tryz.prog 74 (fw k) :=
  fn_soundW (ps := [(.list (.int .u32))]) (e := 91) (t := (.int .u32)) (bx := false) (pts := ptW) (fns := fns) (fgs := fgs) (fws := fws) (tys := tyTab) (main := fun k (x : (List Int)) => nat_own.f k x) ok mix tyOk trivial (fun k x => by kernel_rfl) (fun k => ⟨⟨nat_trim.c k, trivial⟩, trivial, trivial⟩) k
end nat_own

namespace nat_Parse
def s5 : PSig := ⟨0, [], []⟩
def s9 : PSig := ⟨0, [], []⟩
def s11 : PSig := ⟨0, [], [(0, .val .str), (1, .val (.int .i64))]⟩
def s0 : PSig := ⟨0, [(91, (.int .u32), false)], [(0, .val .str), (1, .val (.int .i64)), (6, .own 0), (31, .val (.int .i64)), (32, .val (.int .i64))]⟩
def s23 : PSig := ⟨0, [], []⟩
def s4 : PSig := ⟨0, [(91, (.int .u32), false)], [(0, .val .str), (1, .val (.int .i64)), (6, .own 0), (9, .val (.int .u64)), (31, .val (.int .i64)), (32, .val (.int .i64)), (59, .val (.int .i64)), (60, .val (.int .i64))]⟩
def s45 : PSig := ⟨0, [(91, (.int .u32), false)], [(0, .val .str), (1, .val (.int .i64)), (6, .own 0), (31, .val (.int .i64)), (32, .val (.int .i64))]⟩
def fws : Nat → List (FuncId × FW) := fun _ => []
def ptL : List (Pt (TD [(.list (.int .u32)), (.int .i64)])) := [⟨5, s5, fun k (x : Unit) => nat_Parse.p5 k x⟩, ⟨9, s9, fun k (x : Unit) => nat_Parse.p9 k x⟩, ⟨11, s11, fun k (x : ByteArray × Int) => nat_Parse.p11 k x.1 x.2⟩, ⟨0, s0, fun k (x : (List Int) × ByteArray × Int × Int × Int) => nat_Parse.p0 k x.1 x.2.1 x.2.2.1 x.2.2.2.1 x.2.2.2.2⟩, ⟨23, s23, fun k (x : Unit) => nat_Parse.p23 k x⟩, ⟨4, s4, fun k (x : (List Int) × ByteArray × Int × Int × Int × Int × Int × Int) => nat_Parse.p4 k x.1 x.2.1 x.2.2.1 x.2.2.2.1 x.2.2.2.2.1 x.2.2.2.2.2.1 x.2.2.2.2.2.2.1 x.2.2.2.2.2.2.2⟩, ⟨45, s45, fun k (x : (List Int) × ByteArray × Int × Int × Int) => nat_Parse.p45 k x.1 x.2.1 x.2.2.1 x.2.2.2.1 x.2.2.2.2⟩]
def fns : Nat → List (FuncId × FS) := fun k => [(74, ⟨[(.list (.int .u32))], [(.list (.int .u32))], fun (x : (List Int)) => nat_own.f k x⟩)]
def fgs : Nat → List (FuncId × FG) := fun _ => []
def fs (k : Nat) : FS := ⟨[.str, (.int .i64)], [(.list (.int .u32)), (.int .i64)], fun (x : ByteArray × Int) => nat_Parse.f k x.1 x.2⟩
theorem ok : FnOk Tryz.prog 42 91 Tryz.f42.results.toList (Tryz.f42.body.getD .skip) 2 := ⟨⟨Tryz.f42, by kernel_rfl, by kernel_rfl, by kernel_rfl, rfl, by kernel_rfl⟩, by kernel_rfl, by decide⟩
theorem c (k : Nat) : Contract Tryz.prog 42 (fs k) :=
  fn_sound (ps := [.str, (.int .i64)]) (rs := [(.list (.int .u32)), (.int .i64)]) (pts := ptL) (fns := fns) (fgs := fgs) (fws := fws) (tys := tyTab) (main := fun k (x : ByteArray × Int) => nat_Parse.f k x.1 x.2) ok mix tyOk ⟨⟨rfl, fun _ => rfl, fun k x => by kernel_rfl⟩, ⟨rfl, fun _ => rfl, fun k x => by kernel_rfl⟩, ⟨rfl, fun _ => rfl, fun k x => by kernel_rfl⟩, ⟨rfl, fun _ => rfl, fun k x => by kernel_rfl⟩, ⟨rfl, fun _ => rfl, fun k x => by kernel_rfl⟩, ⟨rfl, fun _ => rfl, fun k x => by kernel_rfl⟩, ⟨rfl, fun _ => rfl, fun k x => by kernel_rfl⟩, trivial⟩ (fun k x => by kernel_rfl) (fun k => ⟨⟨nat_own.c k, trivial⟩, trivial, trivial⟩) k
end nat_Parse

namespace nat_Of
def fws : Nat → List (FuncId × FW) := fun _ => []
def ptL : List (Pt (TD [(.list (.int .u32))])) := []
def fns : Nat → List (FuncId × FS) := fun k => [(74, ⟨[(.list (.int .u32))], [(.list (.int .u32))], fun (x : (List Int)) => nat_own.f k x⟩)]
def fgs : Nat → List (FuncId × FG) := fun _ => []
def fs (k : Nat) : FS := ⟨[(.int .u64)], [(.list (.int .u32))], fun (x : Int) => nat_Of.f k x⟩
theorem ok : FnOk Tryz.prog 45 10 Tryz.f45.results.toList (Tryz.f45.body.getD .skip) 1 := ⟨⟨Tryz.f45, by kernel_rfl, by kernel_rfl, by kernel_rfl, rfl, by kernel_rfl⟩, by kernel_rfl, by decide⟩
theorem c (k : Nat) : Contract Tryz.prog 45 (fs k) :=
  fn_sound (ps := [(.int .u64)]) (rs := [(.list (.int .u32))]) (pts := ptL) (fns := fns) (fgs := fgs) (fws := fws) (tys := tyTab) (main := fun k (x : Int) => nat_Of.f k x) ok mix tyOk trivial (fun k x => by kernel_rfl) (fun k => ⟨⟨nat_own.c k, trivial⟩, trivial, trivial⟩) k
end nat_Of

namespace nat_Norm
def fws : Nat → List (FuncId × FW) := fun _ => []
def ptL : List (Pt (TD [(.list (.int .u32))])) := []
def fns : Nat → List (FuncId × FS) := fun k => [(74, ⟨[(.list (.int .u32))], [(.list (.int .u32))], fun (x : (List Int)) => nat_own.f k x⟩)]
def fgs : Nat → List (FuncId × FG) := fun _ => []
def fs (k : Nat) : FS := ⟨[(.list (.int .u32))], [(.list (.int .u32))], fun (x : (List Int)) => nat_Norm.f k x⟩
theorem ok : FnOk Tryz.prog 95 5 Tryz.f95.results.toList (Tryz.f95.body.getD .skip) 1 := ⟨⟨Tryz.f95, by kernel_rfl, by kernel_rfl, by kernel_rfl, rfl, by kernel_rfl⟩, by kernel_rfl, by decide⟩
theorem c (k : Nat) : Contract Tryz.prog 95 (fs k) :=
  fn_sound (ps := [(.list (.int .u32))]) (rs := [(.list (.int .u32))]) (pts := ptL) (fns := fns) (fgs := fgs) (fws := fws) (tys := tyTab) (main := fun k (x : (List Int)) => nat_Norm.f k x) ok mix tyOk trivial (fun k x => by kernel_rfl) (fun k => ⟨⟨nat_own.c k, trivial⟩, trivial, trivial⟩) k
end nat_Norm

namespace whole_signed
def s0 : PSig := ⟨0, [(33, (.st (.pair .bool (.list (.int .u32)))), true)], [(0, .val (.list (.int .u32))), (4, .ptr 0 []), (5, .val (.int .i64)), (10, .val (.list (.int .i64))), (11, .val (.int .i64)), (12, .val (.int .i64))]⟩
def fws : Nat → List (FuncId × FW) := fun _ => []
def ptL : List (Pt (TD [(.st (.pair .bool (.list (.int .u32))))])) := [⟨0, s0, fun k (x : (Bool × (List Int)) × (List Int) × Int × (List Int) × Int × Int) => whole_signed.p0 k x.1 x.2.1 x.2.2.1 x.2.2.2.1 x.2.2.2.2.1 x.2.2.2.2.2⟩]
def fns : Nat → List (FuncId × FS) := fun k => [(95, ⟨[(.list (.int .u32))], [(.list (.int .u32))], fun (x : (List Int)) => nat_Norm.f k x⟩)]
def fgs : Nat → List (FuncId × FG) := fun _ => []
def fs (k : Nat) : FS := ⟨[(.list (.int .u32)), (.list (.int .i64))], [(.st (.pair .bool (.list (.int .u32))))], fun (x : (List Int) × (List Int)) => whole_signed.f k x.1 x.2⟩
theorem ok : FnOk Tryz.prog 72 29 Tryz.f72.results.toList (Tryz.f72.body.getD .skip) 2 := ⟨⟨Tryz.f72, by kernel_rfl, by kernel_rfl, by kernel_rfl, rfl, by kernel_rfl⟩, by kernel_rfl, by decide⟩
theorem c (k : Nat) : Contract Tryz.prog 72 (fs k) :=
  fn_sound (ps := [(.list (.int .u32)), (.list (.int .i64))]) (rs := [(.st (.pair .bool (.list (.int .u32))))]) (pts := ptL) (fns := fns) (fgs := fgs) (fws := fws) (tys := tyTab) (main := fun k (x : (List Int) × (List Int)) => whole_signed.f k x.1 x.2) ok mix tyOk ⟨⟨rfl, fun _ => rfl, fun k x => by kernel_rfl⟩, trivial⟩ (fun k x => by kernel_rfl) (fun k => ⟨⟨nat_Norm.c k, trivial⟩, trivial, trivial⟩) k
end whole_signed

namespace whole_Of
def fws : Nat → List (FuncId × FW) := fun _ => []
def ptL : List (Pt (TD [(.st (.pair .bool (.list (.int .u32))))])) := []
def fns : Nat → List (FuncId × FS) := fun k => [(45, ⟨[(.int .u64)], [(.list (.int .u32))], fun (x : Int) => nat_Of.f k x⟩), (72, ⟨[(.list (.int .u32)), (.list (.int .i64))], [(.st (.pair .bool (.list (.int .u32))))], fun (x : (List Int) × (List Int)) => whole_signed.f k x.1 x.2⟩)]
def fgs : Nat → List (FuncId × FG) := fun _ => []
def fs (k : Nat) : FS := ⟨[(.int .i64)], [(.st (.pair .bool (.list (.int .u32))))], fun (x : Int) => whole_Of.f k x⟩
theorem ok : FnOk Tryz.prog 44 15 Tryz.f44.results.toList (Tryz.f44.body.getD .skip) 1 := ⟨⟨Tryz.f44, by kernel_rfl, by kernel_rfl, by kernel_rfl, rfl, by kernel_rfl⟩, by kernel_rfl, by decide⟩
theorem c (k : Nat) : Contract Tryz.prog 44 (fs k) :=
  fn_sound (ps := [(.int .i64)]) (rs := [(.st (.pair .bool (.list (.int .u32))))]) (pts := ptL) (fns := fns) (fgs := fgs) (fws := fws) (tys := tyTab) (main := fun k (x : Int) => whole_Of.f k x) ok mix tyOk trivial (fun k x => by kernel_rfl) (fun k => ⟨⟨nat_Of.c k, whole_signed.c k, trivial⟩, trivial, trivial⟩) k
end whole_Of

namespace whole_core
def s0 : PSig := ⟨0, [], [(0, .val (.list (.int .u32))), (3, .val (.int .i64))]⟩
def s9 : PSig := ⟨0, [], [(0, .val (.list (.int .u32))), (3, .val (.int .i64))]⟩
def fws : Nat → List (FuncId × FW) := fun _ => []
def ptL : List (Pt (TD [(.list (.int .u32))])) := [⟨0, s0, fun k (x : (List Int) × Int) => whole_core.p0 k x.1 x.2⟩, ⟨9, s9, fun k (x : (List Int) × Int) => whole_core.p9 k x.1 x.2⟩]
def fns : Nat → List (FuncId × FS) := fun _ => []
def fgs : Nat → List (FuncId × FG) := fun _ => []
def fs (k : Nat) : FS := ⟨[(.list (.int .u32))], [(.list (.int .u32))], fun (x : (List Int)) => whole_core.f k x⟩
theorem ok : FnOk Tryz.prog 79 22 Tryz.f79.results.toList (Tryz.f79.body.getD .skip) 1 := ⟨⟨Tryz.f79, by kernel_rfl, by kernel_rfl, by kernel_rfl, rfl, by kernel_rfl⟩, by kernel_rfl, by decide⟩
theorem c (k : Nat) : Contract Tryz.prog 79 (fs k) :=
  fn_sound (ps := [(.list (.int .u32))]) (rs := [(.list (.int .u32))]) (pts := ptL) (fns := fns) (fgs := fgs) (fws := fws) (tys := tyTab) (main := fun k (x : (List Int)) => whole_core.f k x) ok mix tyOk ⟨⟨rfl, fun _ => rfl, fun k x => by kernel_rfl⟩, ⟨rfl, fun _ => rfl, fun k x => by kernel_rfl⟩, trivial⟩ (fun k x => by kernel_rfl) (fun _ => ⟨trivial, trivial, trivial⟩) k
end whole_core

namespace whole_Sign
def fws : Nat → List (FuncId × FW) := fun _ => []
def ptL : List (Pt (TD [(.int .i64)])) := []
def fns : Nat → List (FuncId × FS) := fun k => [(79, ⟨[(.list (.int .u32))], [(.list (.int .u32))], fun (x : (List Int)) => whole_core.f k x⟩)]
def fgs : Nat → List (FuncId × FG) := fun _ => []
def fs (k : Nat) : FS := ⟨[(.st (.pair .bool (.list (.int .u32))))], [(.int .i64)], fun (x : (Bool × (List Int))) => whole_Sign.f k x⟩
theorem ok : FnOk Tryz.prog 54 12 Tryz.f54.results.toList (Tryz.f54.body.getD .skip) 1 := ⟨⟨Tryz.f54, by kernel_rfl, by kernel_rfl, by kernel_rfl, rfl, by kernel_rfl⟩, by kernel_rfl, by decide⟩
theorem c (k : Nat) : Contract Tryz.prog 54 (fs k) :=
  fn_sound (ps := [(.st (.pair .bool (.list (.int .u32))))]) (rs := [(.int .i64)]) (pts := ptL) (fns := fns) (fgs := fgs) (fws := fws) (tys := tyTab) (main := fun k (x : (Bool × (List Int))) => whole_Sign.f k x) ok mix tyOk trivial (fun k x => by kernel_rfl) (fun k => ⟨⟨whole_core.c k, trivial⟩, trivial, trivial⟩) k
end whole_Sign

namespace whole_Neg
def fws : Nat → List (FuncId × FW) := fun _ => []
def ptL : List (Pt (TD [(.st (.pair .bool (.list (.int .u32))))])) := []
def fns : Nat → List (FuncId × FS) := fun k => [(54, ⟨[(.st (.pair .bool (.list (.int .u32))))], [(.int .i64)], fun (x : (Bool × (List Int))) => whole_Sign.f k x⟩), (72, ⟨[(.list (.int .u32)), (.list (.int .i64))], [(.st (.pair .bool (.list (.int .u32))))], fun (x : (List Int) × (List Int)) => whole_signed.f k x.1 x.2⟩)]
def fgs : Nat → List (FuncId × FG) := fun _ => []
def fs (k : Nat) : FS := ⟨[(.st (.pair .bool (.list (.int .u32))))], [(.st (.pair .bool (.list (.int .u32))))], fun (x : (Bool × (List Int))) => whole_Neg.f k x⟩
theorem ok : FnOk Tryz.prog 75 9 Tryz.f75.results.toList (Tryz.f75.body.getD .skip) 1 := ⟨⟨Tryz.f75, by kernel_rfl, by kernel_rfl, by kernel_rfl, rfl, by kernel_rfl⟩, by kernel_rfl, by decide⟩
theorem c (k : Nat) : Contract Tryz.prog 75 (fs k) :=
  fn_sound (ps := [(.st (.pair .bool (.list (.int .u32))))]) (rs := [(.st (.pair .bool (.list (.int .u32))))]) (pts := ptL) (fns := fns) (fgs := fgs) (fws := fws) (tys := tyTab) (main := fun k (x : (Bool × (List Int))) => whole_Neg.f k x) ok mix tyOk trivial (fun k x => by kernel_rfl) (fun k => ⟨⟨whole_Sign.c k, whole_signed.c k, trivial⟩, trivial, trivial⟩) k
end whole_Neg

namespace nat_Cmp
def s0 : PSig := ⟨0, [], [(0, .val (.list (.int .u32))), (1, .val (.list (.int .u32))), (5, .val (.int .i64))]⟩
def fws : Nat → List (FuncId × FW) := fun _ => []
def ptL : List (Pt (TD [(.int .i64)])) := [⟨0, s0, fun k (x : (List Int) × (List Int) × Int) => nat_Cmp.p0 k x.1 x.2.1 x.2.2⟩]
def fns : Nat → List (FuncId × FS) := fun k => [(73, ⟨[(.list (.int .u32))], [(.list (.int .u32))], fun (x : (List Int)) => nat_trim.f k x⟩)]
def fgs : Nat → List (FuncId × FG) := fun _ => []
def fs (k : Nat) : FS := ⟨[(.list (.int .u32)), (.list (.int .u32))], [(.int .i64)], fun (x : (List Int) × (List Int)) => nat_Cmp.f k x.1 x.2⟩
theorem ok : FnOk Tryz.prog 51 45 Tryz.f51.results.toList (Tryz.f51.body.getD .skip) 2 := ⟨⟨Tryz.f51, by kernel_rfl, by kernel_rfl, by kernel_rfl, rfl, by kernel_rfl⟩, by kernel_rfl, by decide⟩
theorem c (k : Nat) : Contract Tryz.prog 51 (fs k) :=
  fn_sound (ps := [(.list (.int .u32)), (.list (.int .u32))]) (rs := [(.int .i64)]) (pts := ptL) (fns := fns) (fgs := fgs) (fws := fws) (tys := tyTab) (main := fun k (x : (List Int) × (List Int)) => nat_Cmp.f k x.1 x.2) ok mix tyOk ⟨⟨rfl, fun _ => rfl, fun k x => by kernel_rfl⟩, trivial⟩ (fun k x => by kernel_rfl) (fun k => ⟨⟨nat_trim.c k, trivial⟩, trivial, trivial⟩) k
end nat_Cmp

namespace bits_Div32
def s7 : PSig := ⟨0, [], [(0, .val (.int .u32)), (1, .val (.int .u32)), (2, .val (.int .u32))]⟩
def fws : Nat → List (FuncId × FW) := fun _ => []
def ptL : List (Pt (TD [(.int .u32), (.int .u32)])) := [⟨7, s7, fun k (x : Int × Int × Int) => bits_Div32.p7 k x.1 x.2.1 x.2.2⟩]
def fns : Nat → List (FuncId × FS) := fun _ => []
def fgs : Nat → List (FuncId × FG) := fun _ => []
def fs (k : Nat) : FS := ⟨[(.int .u32), (.int .u32), (.int .u32)], [(.int .u32), (.int .u32)], fun (x : Int × Int × Int) => bits_Div32.f k x.1 x.2.1 x.2.2⟩
theorem ok : FnOk Tryz.prog 106 33 Tryz.f106.results.toList (Tryz.f106.body.getD .skip) 3 := ⟨⟨Tryz.f106, by kernel_rfl, by kernel_rfl, by kernel_rfl, rfl, by kernel_rfl⟩, by kernel_rfl, by decide⟩
theorem c (k : Nat) : Contract Tryz.prog 106 (fs k) :=
  fn_sound (ps := [(.int .u32), (.int .u32), (.int .u32)]) (rs := [(.int .u32), (.int .u32)]) (pts := ptL) (fns := fns) (fgs := fgs) (fws := fws) (tys := tyTab) (main := fun k (x : Int × Int × Int) => bits_Div32.f k x.1 x.2.1 x.2.2) ok mix tyOk ⟨⟨rfl, fun _ => rfl, fun k x => by kernel_rfl⟩, trivial⟩ (fun k x => by kernel_rfl) (fun _ => ⟨trivial, trivial, trivial⟩) k
end bits_Div32

namespace nat_short
def s0 : PSig := ⟨0, [(91, (.int .u32), false)], [(0, .val (.list (.int .u32))), (1, .val (.int .u32)), (6, .own 0), (7, .val (.int .u32)), (8, .val (.int .i64))]⟩
def fws : Nat → List (FuncId × FW) := fun _ => []
def ptL : List (Pt (TD [(.list (.int .u32)), (.int .u32)])) := [⟨0, s0, fun k (x : (List Int) × (List Int) × Int × Int × Int) => nat_short.p0 k x.1 x.2.1 x.2.2.1 x.2.2.2.1 x.2.2.2.2⟩]
def fns : Nat → List (FuncId × FS) := fun k => [(106, ⟨[(.int .u32), (.int .u32), (.int .u32)], [(.int .u32), (.int .u32)], fun (x : Int × Int × Int) => bits_Div32.f k x.1 x.2.1 x.2.2⟩)]
def fgs : Nat → List (FuncId × FG) := fun _ => []
def fs (k : Nat) : FS := ⟨[(.list (.int .u32)), (.int .u32)], [(.list (.int .u32)), (.int .u32)], fun (x : (List Int) × Int) => nat_short.f k x.1 x.2⟩
theorem ok : FnOk Tryz.prog 93 34 Tryz.f93.results.toList (Tryz.f93.body.getD .skip) 2 := ⟨⟨Tryz.f93, by kernel_rfl, by kernel_rfl, by kernel_rfl, rfl, by kernel_rfl⟩, by kernel_rfl, by decide⟩
theorem c (k : Nat) : Contract Tryz.prog 93 (fs k) :=
  fn_sound (ps := [(.list (.int .u32)), (.int .u32)]) (rs := [(.list (.int .u32)), (.int .u32)]) (pts := ptL) (fns := fns) (fgs := fgs) (fws := fws) (tys := tyTab) (main := fun k (x : (List Int) × Int) => nat_short.f k x.1 x.2) ok mix tyOk ⟨⟨rfl, fun _ => rfl, fun k x => by kernel_rfl⟩, trivial⟩ (fun k x => by kernel_rfl) (fun k => ⟨⟨bits_Div32.c k, trivial⟩, trivial, trivial⟩) k
end nat_short

namespace bits_Len32
def s9 : PSig := ⟨0, [], [(0, .val (.int .u32)), (2, .val (.int .i64))]⟩
def s15 : PSig := ⟨0, [], [(0, .val (.int .u32)), (2, .val (.int .i64))]⟩
def fws : Nat → List (FuncId × FW) := fun _ => []
def ptL : List (Pt (TD [(.int .i64)])) := [⟨9, s9, fun k (x : Int × Int) => bits_Len32.p9 k x.1 x.2⟩, ⟨15, s15, fun k (x : Int × Int) => bits_Len32.p15 k x.1 x.2⟩]
def fns : Nat → List (FuncId × FS) := fun _ => []
def fgs : Nat → List (FuncId × FG) := fun _ => []
def fs (k : Nat) : FS := ⟨[(.int .u32)], [(.int .i64)], fun (x : Int) => bits_Len32.f k x⟩
theorem ok : FnOk Tryz.prog 76 19 Tryz.f76.results.toList (Tryz.f76.body.getD .skip) 1 := ⟨⟨Tryz.f76, by kernel_rfl, by kernel_rfl, by kernel_rfl, rfl, by kernel_rfl⟩, by kernel_rfl, by decide⟩
theorem c (k : Nat) : Contract Tryz.prog 76 (fs k) :=
  fn_sound (ps := [(.int .u32)]) (rs := [(.int .i64)]) (pts := ptL) (fns := fns) (fgs := fgs) (fws := fws) (tys := tyTab) (main := fun k (x : Int) => bits_Len32.f k x) ok mix tyOk ⟨⟨rfl, fun _ => rfl, fun k x => by kernel_rfl⟩, ⟨rfl, fun _ => rfl, fun k x => by kernel_rfl⟩, trivial⟩ (fun k x => by kernel_rfl) (fun _ => ⟨trivial, trivial, trivial⟩) k
end bits_Len32

namespace bits_LeadingZeros32
def fws : Nat → List (FuncId × FW) := fun _ => []
def ptL : List (Pt (TD [(.int .i64)])) := []
def fns : Nat → List (FuncId × FS) := fun k => [(76, ⟨[(.int .u32)], [(.int .i64)], fun (x : Int) => bits_Len32.f k x⟩)]
def fgs : Nat → List (FuncId × FG) := fun _ => []
def fs (k : Nat) : FS := ⟨[(.int .u32)], [(.int .i64)], fun (x : Int) => bits_LeadingZeros32.f k x⟩
theorem ok : FnOk Tryz.prog 107 6 Tryz.f107.results.toList (Tryz.f107.body.getD .skip) 1 := ⟨⟨Tryz.f107, by kernel_rfl, by kernel_rfl, by kernel_rfl, rfl, by kernel_rfl⟩, by kernel_rfl, by decide⟩
theorem c (k : Nat) : Contract Tryz.prog 107 (fs k) :=
  fn_sound (ps := [(.int .u32)]) (rs := [(.int .i64)]) (pts := ptL) (fns := fns) (fgs := fgs) (fws := fws) (tys := tyTab) (main := fun k (x : Int) => bits_LeadingZeros32.f k x) ok mix tyOk trivial (fun k x => by kernel_rfl) (fun k => ⟨⟨bits_Len32.c k, trivial⟩, trivial, trivial⟩) k
end bits_LeadingZeros32

namespace nat_moved
def s0 : PSig := ⟨0, [(91, (.int .u32), false)], [(0, .val (.list (.int .u32))), (1, .val (.int .i64)), (5, .own 0), (12, .val (.int .i64)), (13, .val (.int .i64))]⟩
def fws : Nat → List (FuncId × FW) := fun _ => []
def ptL : List (Pt (TD [(.list (.int .u32))])) := [⟨0, s0, fun k (x : (List Int) × (List Int) × Int × Int × Int) => nat_moved.p0 k x.1 x.2.1 x.2.2.1 x.2.2.2.1 x.2.2.2.2⟩]
def fns : Nat → List (FuncId × FS) := fun _ => []
def fgs : Nat → List (FuncId × FG) := fun _ => []
def fs (k : Nat) : FS := ⟨[(.list (.int .u32)), (.int .i64)], [(.list (.int .u32))], fun (x : (List Int) × Int) => nat_moved.f k x.1 x.2⟩
theorem ok : FnOk Tryz.prog 96 43 Tryz.f96.results.toList (Tryz.f96.body.getD .skip) 2 := ⟨⟨Tryz.f96, by kernel_rfl, by kernel_rfl, by kernel_rfl, rfl, by kernel_rfl⟩, by kernel_rfl, by decide⟩
theorem c (k : Nat) : Contract Tryz.prog 96 (fs k) :=
  fn_sound (ps := [(.list (.int .u32)), (.int .i64)]) (rs := [(.list (.int .u32))]) (pts := ptL) (fns := fns) (fgs := fgs) (fws := fws) (tys := tyTab) (main := fun k (x : (List Int) × Int) => nat_moved.f k x.1 x.2) ok mix tyOk ⟨⟨rfl, fun _ => rfl, fun k x => by kernel_rfl⟩, trivial⟩ (fun k x => by kernel_rfl) (fun _ => ⟨trivial, trivial, trivial⟩) k
def fw (k : Nat) : FW := ⟨[(.list (.int .u32)), (.int .i64)], 91, (.int .u32), false, fun (x : (List Int) × Int) => nat_moved.f k x.1 x.2⟩
def ptW : List (Pt (List (Ty.D (.int .u32)))) := [⟨0, s0, fun k (x : (List Int) × (List Int) × Int × Int × Int) => nat_moved.p0 k x.1 x.2.1 x.2.2.1 x.2.2.2.1 x.2.2.2.2⟩]
theorem cw (k : Nat) : ContractW Tryz.prog 96 (fw k) :=
  fn_soundW (ps := [(.list (.int .u32)), (.int .i64)]) (e := 91) (t := (.int .u32)) (bx := false) (pts := ptW) (fns := fns) (fgs := fgs) (fws := fws) (tys := tyTab) (main := fun k (x : (List Int) × Int) => nat_moved.f k x.1 x.2) ok mix tyOk ⟨⟨rfl, fun _ => rfl, fun k x => by kernel_rfl⟩, trivial⟩ (fun k x => by kernel_rfl) (fun _ => ⟨trivial, trivial, trivial⟩) k
end nat_moved

namespace bits_Sub32
def fws : Nat → List (FuncId × FW) := fun _ => []
def ptL : List (Pt (TD [(.int .u32), (.int .u32)])) := []
def fns : Nat → List (FuncId × FS) := fun _ => []
def fgs : Nat → List (FuncId × FG) := fun _ => []
def fs (k : Nat) : FS := ⟨[(.int .u32), (.int .u32), (.int .u32)], [(.int .u32), (.int .u32)], fun (x : Int × Int × Int) => bits_Sub32.f k x.1 x.2.1 x.2.2⟩
theorem ok : FnOk Tryz.prog 116 25 Tryz.f116.results.toList (Tryz.f116.body.getD .skip) 3 := ⟨⟨Tryz.f116, by kernel_rfl, by kernel_rfl, by kernel_rfl, rfl, by kernel_rfl⟩, by kernel_rfl, by decide⟩
theorem c (k : Nat) : Contract Tryz.prog 116 (fs k) :=
  fn_sound (ps := [(.int .u32), (.int .u32), (.int .u32)]) (rs := [(.int .u32), (.int .u32)]) (pts := ptL) (fns := fns) (fgs := fgs) (fws := fws) (tys := tyTab) (main := fun k (x : Int × Int × Int) => bits_Sub32.f k x.1 x.2.1 x.2.2) ok mix tyOk trivial (fun k x => by kernel_rfl) (fun _ => ⟨trivial, trivial, trivial⟩) k
end bits_Sub32

namespace bits_Add32
def fws : Nat → List (FuncId × FW) := fun _ => []
def ptL : List (Pt (TD [(.int .u32), (.int .u32)])) := []
def fns : Nat → List (FuncId × FS) := fun _ => []
def fgs : Nat → List (FuncId × FG) := fun _ => []
def fs (k : Nat) : FS := ⟨[(.int .u32), (.int .u32), (.int .u32)], [(.int .u32), (.int .u32)], fun (x : Int × Int × Int) => bits_Add32.f k x.1 x.2.1 x.2.2⟩
theorem ok : FnOk Tryz.prog 78 22 Tryz.f78.results.toList (Tryz.f78.body.getD .skip) 3 := ⟨⟨Tryz.f78, by kernel_rfl, by kernel_rfl, by kernel_rfl, rfl, by kernel_rfl⟩, by kernel_rfl, by decide⟩
theorem c (k : Nat) : Contract Tryz.prog 78 (fs k) :=
  fn_sound (ps := [(.int .u32), (.int .u32), (.int .u32)]) (rs := [(.int .u32), (.int .u32)]) (pts := ptL) (fns := fns) (fgs := fgs) (fws := fws) (tys := tyTab) (main := fun k (x : Int × Int × Int) => bits_Add32.f k x.1 x.2.1 x.2.2) ok mix tyOk trivial (fun k x => by kernel_rfl) (fun _ => ⟨trivial, trivial, trivial⟩) k
end bits_Add32

namespace nat_digit
def s0 : PSig := ⟨1, [(91, (.int .u32), false)], [(0, .win 0), (1, .val (.list (.int .u32))), (5, .val (.int .i64)), (7, .val (.int .u64)), (8, .val (.int .u64))]⟩
def s11 : PSig := ⟨1, [(91, (.int .u32), false)], [(0, .win 0), (1, .val (.list (.int .u32))), (5, .val (.int .i64)), (7, .val (.int .u64)), (8, .val (.int .u64))]⟩
def s4 : PSig := ⟨1, [(91, (.int .u32), false)], [(0, .win 0), (1, .val (.list (.int .u32))), (5, .val (.int .i64)), (7, .val (.int .u64)), (9, .val (.int .u32)), (10, .val (.int .u64)), (82, .val (.int .i64)), (83, .val (.int .i64))]⟩
def s8 : PSig := ⟨1, [(91, (.int .u32), false)], [(0, .win 0), (1, .val (.list (.int .u32))), (5, .val (.int .i64)), (7, .val (.int .u64)), (13, .val (.int .u32)), (130, .val (.int .i64)), (131, .val (.int .i64))]⟩
def fws : Nat → List (FuncId × FW) := fun _ => []
def ptL : List (Pt (TD ([.win 91 (.int .u32), .val (.list (.int .u32))].flatMap PK.outs ++ [(.int .u32)]))) := [⟨0, s0, fun k (x : (List Int) × Nat × Nat × (List Int) × Int × Int × Int) => nat_digit.p0 k x.1 x.2.1 x.2.2.1 x.2.2.2.1 x.2.2.2.2.1 x.2.2.2.2.2.1 x.2.2.2.2.2.2⟩, ⟨11, s11, fun k (x : (List Int) × Nat × Nat × (List Int) × Int × Int × Int) => nat_digit.p11 k x.1 x.2.1 x.2.2.1 x.2.2.2.1 x.2.2.2.2.1 x.2.2.2.2.2.1 x.2.2.2.2.2.2⟩, ⟨4, s4, fun k (x : (List Int) × Nat × Nat × (List Int) × Int × Int × Int × Int × Int × Int) => nat_digit.p4 k x.1 x.2.1 x.2.2.1 x.2.2.2.1 x.2.2.2.2.1 x.2.2.2.2.2.1 x.2.2.2.2.2.2.1 x.2.2.2.2.2.2.2.1 x.2.2.2.2.2.2.2.2.1 x.2.2.2.2.2.2.2.2.2⟩, ⟨8, s8, fun k (x : (List Int) × Nat × Nat × (List Int) × Int × Int × Int × Int × Int) => nat_digit.p8 k x.1 x.2.1 x.2.2.1 x.2.2.2.1 x.2.2.2.2.1 x.2.2.2.2.2.1 x.2.2.2.2.2.2.1 x.2.2.2.2.2.2.2.1 x.2.2.2.2.2.2.2.2⟩]
def fns : Nat → List (FuncId × FS) := fun k => [(116, ⟨[(.int .u32), (.int .u32), (.int .u32)], [(.int .u32), (.int .u32)], fun (x : Int × Int × Int) => bits_Sub32.f k x.1 x.2.1 x.2.2⟩), (78, ⟨[(.int .u32), (.int .u32), (.int .u32)], [(.int .u32), (.int .u32)], fun (x : Int × Int × Int) => bits_Add32.f k x.1 x.2.1 x.2.2⟩)]
def fgs : Nat → List (FuncId × FG) := fun _ => []
def fg (k : Nat) : FG := ⟨[.win 91 (.int .u32), .val (.list (.int .u32))], [(.int .u32)], fun (x : (List Int) × Nat × Nat × (List Int)) => nat_digit.f k x.1 x.2.1 x.2.2.1 x.2.2.2⟩
theorem ok : FnOk Tryz.prog 108 160 Tryz.f108.results.toList (Tryz.f108.body.getD .skip) 2 := ⟨⟨Tryz.f108, by kernel_rfl, by kernel_rfl, by kernel_rfl, rfl, by kernel_rfl⟩, by kernel_rfl, by decide⟩
theorem c (k : Nat) : ContractG Tryz.prog 108 (fg k) :=
  fn_soundG (ps := [.win 91 (.int .u32), .val (.list (.int .u32))]) (rs := [(.int .u32)]) (pts := ptL) (fns := fns) (fgs := fgs) (fws := fws) (tys := tyTab) (main := fun k (x : (List Int) × Nat × Nat × (List Int)) => nat_digit.f k x.1 x.2.1 x.2.2.1 x.2.2.2) ok rfl mix tyOk ⟨⟨rfl, fun _ => rfl, fun k x => by kernel_rfl⟩, ⟨rfl, fun _ => rfl, fun k x => by kernel_rfl⟩, ⟨rfl, fun _ => rfl, fun k x => by kernel_rfl⟩, ⟨rfl, fun _ => rfl, fun k x => by kernel_rfl⟩, trivial⟩ (fun k x => by kernel_rfl) (fun k => ⟨⟨bits_Sub32.c k, bits_Add32.c k, trivial⟩, trivial, trivial⟩) k
end nat_digit

namespace nat_long
def s0 : PSig := ⟨0, [(91, (.int .u32), false), (91, (.int .u32), false)], [(6, .val (.int .i64)), (7, .val (.list (.int .u32))), (8, .own 0), (9, .val (.int .i64)), (10, .own 1), (11, .val (.int .i64))]⟩
def s4 : PSig := ⟨0, [(91, (.int .u32), false), (91, (.int .u32), false), (91, (.int .u32), false)], [(6, .val (.int .i64)), (8, .own 0), (10, .own 1), (12, .own 2), (60, .val (.int .i64)), (61, .val (.int .i64))]⟩
def fws : Nat → List (FuncId × FW) := fun k => [(96, ⟨[(.list (.int .u32)), (.int .i64)], 91, (.int .u32), false, fun (x : (List Int) × Int) => nat_moved.f k x.1 x.2⟩), (74, ⟨[(.list (.int .u32))], 91, (.int .u32), false, fun (x : (List Int)) => nat_own.f k x⟩)]
def ptL : List (Pt (TD [(.list (.int .u32)), (.list (.int .u32))])) := [⟨0, s0, fun k (x : (List Int) × (List Int) × Int × (List Int) × Int × Int) => nat_long.p0 k x.1 x.2.1 x.2.2.1 x.2.2.2.1 x.2.2.2.2.1 x.2.2.2.2.2⟩, ⟨4, s4, fun k (x : (List Int) × (List Int) × (List Int) × Int × Int × Int) => nat_long.p4 k x.1 x.2.1 x.2.2.1 x.2.2.2.1 x.2.2.2.2.1 x.2.2.2.2.2⟩]
def fns : Nat → List (FuncId × FS) := fun k => [(107, ⟨[(.int .u32)], [(.int .i64)], fun (x : Int) => bits_LeadingZeros32.f k x⟩)]
def fgs : Nat → List (FuncId × FG) := fun k => [(108, ⟨[.win 91 (.int .u32), .val (.list (.int .u32))], [(.int .u32)], fun (x : (List Int) × Nat × Nat × (List Int)) => nat_digit.f k x.1 x.2.1 x.2.2.1 x.2.2.2⟩)]
def fs (k : Nat) : FS := ⟨[(.list (.int .u32)), (.list (.int .u32))], [(.list (.int .u32)), (.list (.int .u32))], fun (x : (List Int) × (List Int)) => nat_long.f k x.1 x.2⟩
theorem ok : FnOk Tryz.prog 94 89 Tryz.f94.results.toList (Tryz.f94.body.getD .skip) 2 := ⟨⟨Tryz.f94, by kernel_rfl, by kernel_rfl, by kernel_rfl, rfl, by kernel_rfl⟩, by kernel_rfl, by decide⟩
theorem c (k : Nat) : Contract Tryz.prog 94 (fs k) :=
  fn_sound (ps := [(.list (.int .u32)), (.list (.int .u32))]) (rs := [(.list (.int .u32)), (.list (.int .u32))]) (pts := ptL) (fns := fns) (fgs := fgs) (fws := fws) (tys := tyTab) (main := fun k (x : (List Int) × (List Int)) => nat_long.f k x.1 x.2) ok mix tyOk ⟨⟨rfl, fun _ => rfl, fun k x => by kernel_rfl⟩, ⟨rfl, fun _ => rfl, fun k x => by kernel_rfl⟩, trivial⟩ (fun k x => by kernel_rfl) (fun k => ⟨⟨bits_LeadingZeros32.c k, trivial⟩, ⟨nat_digit.c k, trivial⟩, ⟨nat_moved.cw k, nat_own.cw k, trivial⟩⟩) k
end nat_long

namespace nat_Div
def fws : Nat → List (FuncId × FW) := fun _ => []
def ptL : List (Pt (TD [(.list (.int .u32)), (.list (.int .u32)), (.int .i64)])) := []
def fns : Nat → List (FuncId × FS) := fun k => [(73, ⟨[(.list (.int .u32))], [(.list (.int .u32))], fun (x : (List Int)) => nat_trim.f k x⟩), (51, ⟨[(.list (.int .u32)), (.list (.int .u32))], [(.int .i64)], fun (x : (List Int) × (List Int)) => nat_Cmp.f k x.1 x.2⟩), (74, ⟨[(.list (.int .u32))], [(.list (.int .u32))], fun (x : (List Int)) => nat_own.f k x⟩), (93, ⟨[(.list (.int .u32)), (.int .u32)], [(.list (.int .u32)), (.int .u32)], fun (x : (List Int) × Int) => nat_short.f k x.1 x.2⟩), (94, ⟨[(.list (.int .u32)), (.list (.int .u32))], [(.list (.int .u32)), (.list (.int .u32))], fun (x : (List Int) × (List Int)) => nat_long.f k x.1 x.2⟩)]
def fgs : Nat → List (FuncId × FG) := fun _ => []
def fs (k : Nat) : FS := ⟨[(.list (.int .u32)), (.list (.int .u32))], [(.list (.int .u32)), (.list (.int .u32)), (.int .i64)], fun (x : (List Int) × (List Int)) => nat_Div.f k x.1 x.2⟩
theorem ok : FnOk Tryz.prog 70 51 Tryz.f70.results.toList (Tryz.f70.body.getD .skip) 2 := ⟨⟨Tryz.f70, by kernel_rfl, by kernel_rfl, by kernel_rfl, rfl, by kernel_rfl⟩, by kernel_rfl, by decide⟩
theorem c (k : Nat) : Contract Tryz.prog 70 (fs k) :=
  fn_sound (ps := [(.list (.int .u32)), (.list (.int .u32))]) (rs := [(.list (.int .u32)), (.list (.int .u32)), (.int .i64)]) (pts := ptL) (fns := fns) (fgs := fgs) (fws := fws) (tys := tyTab) (main := fun k (x : (List Int) × (List Int)) => nat_Div.f k x.1 x.2) ok mix tyOk trivial (fun k x => by kernel_rfl) (fun k => ⟨⟨nat_trim.c k, nat_Cmp.c k, nat_own.c k, nat_short.c k, nat_long.c k, trivial⟩, trivial, trivial⟩) k
end nat_Div

namespace nat_Gcd
def s0 : PSig := ⟨0, [], [(0, .val (.list (.int .u32))), (1, .val (.list (.int .u32)))]⟩
def fws : Nat → List (FuncId × FW) := fun _ => []
def ptL : List (Pt (TD [(.list (.int .u32))])) := [⟨0, s0, fun k (x : (List Int) × (List Int)) => nat_Gcd.p0 k x.1 x.2⟩]
def fns : Nat → List (FuncId × FS) := fun k => [(74, ⟨[(.list (.int .u32))], [(.list (.int .u32))], fun (x : (List Int)) => nat_own.f k x⟩), (70, ⟨[(.list (.int .u32)), (.list (.int .u32))], [(.list (.int .u32)), (.list (.int .u32)), (.int .i64)], fun (x : (List Int) × (List Int)) => nat_Div.f k x.1 x.2⟩)]
def fgs : Nat → List (FuncId × FG) := fun _ => []
def fs (k : Nat) : FS := ⟨[(.list (.int .u32)), (.list (.int .u32))], [(.list (.int .u32))], fun (x : (List Int) × (List Int)) => nat_Gcd.f k x.1 x.2⟩
theorem ok : FnOk Tryz.prog 69 25 Tryz.f69.results.toList (Tryz.f69.body.getD .skip) 2 := ⟨⟨Tryz.f69, by kernel_rfl, by kernel_rfl, by kernel_rfl, rfl, by kernel_rfl⟩, by kernel_rfl, by decide⟩
theorem c (k : Nat) : Contract Tryz.prog 69 (fs k) :=
  fn_sound (ps := [(.list (.int .u32)), (.list (.int .u32))]) (rs := [(.list (.int .u32))]) (pts := ptL) (fns := fns) (fgs := fgs) (fws := fws) (tys := tyTab) (main := fun k (x : (List Int) × (List Int)) => nat_Gcd.f k x.1 x.2) ok mix tyOk ⟨⟨rfl, fun _ => rfl, fun k x => by kernel_rfl⟩, trivial⟩ (fun k x => by kernel_rfl) (fun k => ⟨⟨nat_own.c k, nat_Div.c k, trivial⟩, trivial, trivial⟩) k
end nat_Gcd

namespace whole_Norm
def fws : Nat → List (FuncId × FW) := fun _ => []
def ptL : List (Pt (TD [(.st (.pair .bool (.list (.int .u32))))])) := []
def fns : Nat → List (FuncId × FS) := fun k => [(54, ⟨[(.st (.pair .bool (.list (.int .u32))))], [(.int .i64)], fun (x : (Bool × (List Int))) => whole_Sign.f k x⟩), (72, ⟨[(.list (.int .u32)), (.list (.int .i64))], [(.st (.pair .bool (.list (.int .u32))))], fun (x : (List Int) × (List Int)) => whole_signed.f k x.1 x.2⟩)]
def fgs : Nat → List (FuncId × FG) := fun _ => []
def fs (k : Nat) : FS := ⟨[(.st (.pair .bool (.list (.int .u32))))], [(.st (.pair .bool (.list (.int .u32))))], fun (x : (Bool × (List Int))) => whole_Norm.f k x⟩
theorem ok : FnOk Tryz.prog 71 9 Tryz.f71.results.toList (Tryz.f71.body.getD .skip) 1 := ⟨⟨Tryz.f71, by kernel_rfl, by kernel_rfl, by kernel_rfl, rfl, by kernel_rfl⟩, by kernel_rfl, by decide⟩
theorem c (k : Nat) : Contract Tryz.prog 71 (fs k) :=
  fn_sound (ps := [(.st (.pair .bool (.list (.int .u32))))]) (rs := [(.st (.pair .bool (.list (.int .u32))))]) (pts := ptL) (fns := fns) (fgs := fgs) (fws := fws) (tys := tyTab) (main := fun k (x : (Bool × (List Int))) => whole_Norm.f k x) ok mix tyOk trivial (fun k x => by kernel_rfl) (fun k => ⟨⟨whole_Sign.c k, whole_signed.c k, trivial⟩, trivial, trivial⟩) k
end whole_Norm

namespace ratio_made
def fws : Nat → List (FuncId × FW) := fun _ => []
def ptL : List (Pt (TD [(.st (.pair (.st (.pair .bool (.list (.int .u32)))) (.list (.int .u32))))])) := []
def fns : Nat → List (FuncId × FS) := fun k => [(69, ⟨[(.list (.int .u32)), (.list (.int .u32))], [(.list (.int .u32))], fun (x : (List Int) × (List Int)) => nat_Gcd.f k x.1 x.2⟩), (70, ⟨[(.list (.int .u32)), (.list (.int .u32))], [(.list (.int .u32)), (.list (.int .u32)), (.int .i64)], fun (x : (List Int) × (List Int)) => nat_Div.f k x.1 x.2⟩), (71, ⟨[(.st (.pair .bool (.list (.int .u32))))], [(.st (.pair .bool (.list (.int .u32))))], fun (x : (Bool × (List Int))) => whole_Norm.f k x⟩)]
def fgs : Nat → List (FuncId × FG) := fun _ => []
def fs (k : Nat) : FS := ⟨[(.st (.pair .bool (.list (.int .u32)))), (.list (.int .u32))], [(.st (.pair (.st (.pair .bool (.list (.int .u32)))) (.list (.int .u32))))], fun (x : (Bool × (List Int)) × (List Int)) => ratio_made.f k x.1 x.2⟩
theorem ok : FnOk Tryz.prog 39 38 Tryz.f39.results.toList (Tryz.f39.body.getD .skip) 2 := ⟨⟨Tryz.f39, by kernel_rfl, by kernel_rfl, by kernel_rfl, rfl, by kernel_rfl⟩, by kernel_rfl, by decide⟩
theorem c (k : Nat) : Contract Tryz.prog 39 (fs k) :=
  fn_sound (ps := [(.st (.pair .bool (.list (.int .u32)))), (.list (.int .u32))]) (rs := [(.st (.pair (.st (.pair .bool (.list (.int .u32)))) (.list (.int .u32))))]) (pts := ptL) (fns := fns) (fgs := fgs) (fws := fws) (tys := tyTab) (main := fun k (x : (Bool × (List Int)) × (List Int)) => ratio_made.f k x.1 x.2) ok mix tyOk trivial (fun k x => by kernel_rfl) (fun k => ⟨⟨nat_Gcd.c k, nat_Div.c k, whole_Norm.c k, trivial⟩, trivial, trivial⟩) k
end ratio_made

namespace ratio_Of
def s11 : PSig := ⟨0, [(33, (.st (.pair .bool (.list (.int .u32)))), true), (33, (.st (.pair .bool (.list (.int .u32)))), true), (35, (.st (.pair (.st (.pair .bool (.list (.int .u32)))) (.list (.int .u32)))), true)], [(2, .ptr 0 []), (3, .ptr 1 []), (4, .ptr 2 [])]⟩
def fws : Nat → List (FuncId × FW) := fun _ => []
def ptL : List (Pt (TD [(.st (.pair (.st (.pair .bool (.list (.int .u32)))) (.list (.int .u32)))), (.int .i64)])) := [⟨11, s11, fun k (x : (Bool × (List Int)) × (Bool × (List Int)) × ((Bool × (List Int)) × (List Int))) => ratio_Of.p11 k x.1 x.2.1 x.2.2⟩]
def fns : Nat → List (FuncId × FS) := fun k => [(54, ⟨[(.st (.pair .bool (.list (.int .u32))))], [(.int .i64)], fun (x : (Bool × (List Int))) => whole_Sign.f k x⟩), (75, ⟨[(.st (.pair .bool (.list (.int .u32))))], [(.st (.pair .bool (.list (.int .u32))))], fun (x : (Bool × (List Int))) => whole_Neg.f k x⟩), (39, ⟨[(.st (.pair .bool (.list (.int .u32)))), (.list (.int .u32))], [(.st (.pair (.st (.pair .bool (.list (.int .u32)))) (.list (.int .u32))))], fun (x : (Bool × (List Int)) × (List Int)) => ratio_made.f k x.1 x.2⟩)]
def fgs : Nat → List (FuncId × FG) := fun _ => []
def fs (k : Nat) : FS := ⟨[(.st (.pair .bool (.list (.int .u32)))), (.st (.pair .bool (.list (.int .u32))))], [(.st (.pair (.st (.pair .bool (.list (.int .u32)))) (.list (.int .u32)))), (.int .i64)], fun (x : (Bool × (List Int)) × (Bool × (List Int))) => ratio_Of.f k x.1 x.2⟩
theorem ok : FnOk Tryz.prog 43 19 Tryz.f43.results.toList (Tryz.f43.body.getD .skip) 2 := ⟨⟨Tryz.f43, by kernel_rfl, by kernel_rfl, by kernel_rfl, rfl, by kernel_rfl⟩, by kernel_rfl, by decide⟩
theorem c (k : Nat) : Contract Tryz.prog 43 (fs k) :=
  fn_sound (ps := [(.st (.pair .bool (.list (.int .u32)))), (.st (.pair .bool (.list (.int .u32))))]) (rs := [(.st (.pair (.st (.pair .bool (.list (.int .u32)))) (.list (.int .u32)))), (.int .i64)]) (pts := ptL) (fns := fns) (fgs := fgs) (fws := fws) (tys := tyTab) (main := fun k (x : (Bool × (List Int)) × (Bool × (List Int))) => ratio_Of.f k x.1 x.2) ok mix tyOk ⟨⟨rfl, fun _ => rfl, fun k x => by kernel_rfl⟩, trivial⟩ (fun k x => by kernel_rfl) (fun k => ⟨⟨whole_Sign.c k, whole_Neg.c k, ratio_made.c k, trivial⟩, trivial, trivial⟩) k
end ratio_Of

namespace approx_number
def fws : Nat → List (FuncId × FW) := fun _ => []
def ptL : List (Pt (TD [(.st (.pair (.st (.pair .bool (.list (.int .u32)))) (.list (.int .u32))))])) := []
def fns : Nat → List (FuncId × FS) := fun k => [(36, ⟨[.str, .str], [.str], fun (x : ByteArray × ByteArray) => strings_TrimLeft.f k x.1 x.2⟩), (42, ⟨[.str, (.int .i64)], [(.list (.int .u32)), (.int .i64)], fun (x : ByteArray × Int) => nat_Parse.f k x.1 x.2⟩), (44, ⟨[(.int .i64)], [(.st (.pair .bool (.list (.int .u32))))], fun (x : Int) => whole_Of.f k x⟩), (43, ⟨[(.st (.pair .bool (.list (.int .u32)))), (.st (.pair .bool (.list (.int .u32))))], [(.st (.pair (.st (.pair .bool (.list (.int .u32)))) (.list (.int .u32)))), (.int .i64)], fun (x : (Bool × (List Int)) × (Bool × (List Int))) => ratio_Of.f k x.1 x.2⟩)]
def fgs : Nat → List (FuncId × FG) := fun _ => []
def fs (k : Nat) : FS := ⟨[.str], [(.st (.pair (.st (.pair .bool (.list (.int .u32)))) (.list (.int .u32))))], fun (x : ByteArray) => approx_number.f k x⟩
theorem ok : FnOk Tryz.prog 18 25 Tryz.f18.results.toList (Tryz.f18.body.getD .skip) 1 := ⟨⟨Tryz.f18, by kernel_rfl, by kernel_rfl, by kernel_rfl, rfl, by kernel_rfl⟩, by kernel_rfl, by decide⟩
theorem c (k : Nat) : Contract Tryz.prog 18 (fs k) :=
  fn_sound (ps := [.str]) (rs := [(.st (.pair (.st (.pair .bool (.list (.int .u32)))) (.list (.int .u32))))]) (pts := ptL) (fns := fns) (fgs := fgs) (fws := fws) (tys := tyTab) (main := fun k (x : ByteArray) => approx_number.f k x) ok mix tyOk trivial (fun k x => by kernel_rfl) (fun k => ⟨⟨strings_TrimLeft.c k, nat_Parse.c k, whole_Of.c k, ratio_Of.c k, trivial⟩, trivial, trivial⟩) k
end approx_number

namespace nat_Mul
def s0 : PSig := ⟨0, [(91, (.int .u32), false)], [(0, .val (.list (.int .u32))), (1, .val (.list (.int .u32))), (5, .own 0), (21, .val (.int .i64)), (22, .val (.int .i64))]⟩
def s4 : PSig := ⟨0, [(91, (.int .u32), false)], [(0, .val (.list (.int .u32))), (1, .val (.list (.int .u32))), (5, .own 0), (6, .val (.int .i64)), (7, .val (.int .u64)), (21, .val (.int .i64)), (22, .val (.int .i64)), (26, .val (.int .i64)), (27, .val (.int .i64))]⟩
def fws : Nat → List (FuncId × FW) := fun _ => []
def ptL : List (Pt (TD [(.list (.int .u32))])) := [⟨0, s0, fun k (x : (List Int) × (List Int) × (List Int) × Int × Int) => nat_Mul.p0 k x.1 x.2.1 x.2.2.1 x.2.2.2.1 x.2.2.2.2⟩, ⟨4, s4, fun k (x : (List Int) × (List Int) × (List Int) × Int × Int × Int × Int × Int × Int) => nat_Mul.p4 k x.1 x.2.1 x.2.2.1 x.2.2.2.1 x.2.2.2.2.1 x.2.2.2.2.2.1 x.2.2.2.2.2.2.1 x.2.2.2.2.2.2.2.1 x.2.2.2.2.2.2.2.2⟩]
def fns : Nat → List (FuncId × FS) := fun k => [(73, ⟨[(.list (.int .u32))], [(.list (.int .u32))], fun (x : (List Int)) => nat_trim.f k x⟩), (74, ⟨[(.list (.int .u32))], [(.list (.int .u32))], fun (x : (List Int)) => nat_own.f k x⟩)]
def fgs : Nat → List (FuncId × FG) := fun _ => []
def fs (k : Nat) : FS := ⟨[(.list (.int .u32)), (.list (.int .u32))], [(.list (.int .u32))], fun (x : (List Int) × (List Int)) => nat_Mul.f k x.1 x.2⟩
theorem ok : FnOk Tryz.prog 41 72 Tryz.f41.results.toList (Tryz.f41.body.getD .skip) 2 := ⟨⟨Tryz.f41, by kernel_rfl, by kernel_rfl, by kernel_rfl, rfl, by kernel_rfl⟩, by kernel_rfl, by decide⟩
theorem c (k : Nat) : Contract Tryz.prog 41 (fs k) :=
  fn_sound (ps := [(.list (.int .u32)), (.list (.int .u32))]) (rs := [(.list (.int .u32))]) (pts := ptL) (fns := fns) (fgs := fgs) (fws := fws) (tys := tyTab) (main := fun k (x : (List Int) × (List Int)) => nat_Mul.f k x.1 x.2) ok mix tyOk ⟨⟨rfl, fun _ => rfl, fun k x => by kernel_rfl⟩, ⟨rfl, fun _ => rfl, fun k x => by kernel_rfl⟩, trivial⟩ (fun k x => by kernel_rfl) (fun k => ⟨⟨nat_trim.c k, nat_own.c k, trivial⟩, trivial, trivial⟩) k
end nat_Mul

namespace nat_Pow
def s5 : PSig := ⟨0, [], []⟩
def s0 : PSig := ⟨0, [], [(1, .val (.int .i64)), (6, .val (.list (.int .u32))), (7, .val (.list (.int .u32)))]⟩
def s19 : PSig := ⟨0, [], [(1, .val (.int .i64)), (6, .val (.list (.int .u32))), (7, .val (.list (.int .u32)))]⟩
def s13 : PSig := ⟨0, [], [(1, .val (.int .i64)), (6, .val (.list (.int .u32))), (7, .val (.list (.int .u32)))]⟩
def fws : Nat → List (FuncId × FW) := fun _ => []
def ptL : List (Pt (TD [(.list (.int .u32)), (.int .i64)])) := [⟨5, s5, fun k (x : Unit) => nat_Pow.p5 k x⟩, ⟨0, s0, fun k (x : Int × (List Int) × (List Int)) => nat_Pow.p0 k x.1 x.2.1 x.2.2⟩, ⟨19, s19, fun k (x : Int × (List Int) × (List Int)) => nat_Pow.p19 k x.1 x.2.1 x.2.2⟩, ⟨13, s13, fun k (x : Int × (List Int) × (List Int)) => nat_Pow.p13 k x.1 x.2.1 x.2.2⟩]
def fns : Nat → List (FuncId × FS) := fun k => [(74, ⟨[(.list (.int .u32))], [(.list (.int .u32))], fun (x : (List Int)) => nat_own.f k x⟩), (41, ⟨[(.list (.int .u32)), (.list (.int .u32))], [(.list (.int .u32))], fun (x : (List Int) × (List Int)) => nat_Mul.f k x.1 x.2⟩)]
def fgs : Nat → List (FuncId × FG) := fun _ => []
def fs (k : Nat) : FS := ⟨[(.list (.int .u32)), (.int .i64)], [(.list (.int .u32)), (.int .i64)], fun (x : (List Int) × Int) => nat_Pow.f k x.1 x.2⟩
theorem ok : FnOk Tryz.prog 46 33 Tryz.f46.results.toList (Tryz.f46.body.getD .skip) 2 := ⟨⟨Tryz.f46, by kernel_rfl, by kernel_rfl, by kernel_rfl, rfl, by kernel_rfl⟩, by kernel_rfl, by decide⟩
theorem c (k : Nat) : Contract Tryz.prog 46 (fs k) :=
  fn_sound (ps := [(.list (.int .u32)), (.int .i64)]) (rs := [(.list (.int .u32)), (.int .i64)]) (pts := ptL) (fns := fns) (fgs := fgs) (fws := fws) (tys := tyTab) (main := fun k (x : (List Int) × Int) => nat_Pow.f k x.1 x.2) ok mix tyOk ⟨⟨rfl, fun _ => rfl, fun k x => by kernel_rfl⟩, ⟨rfl, fun _ => rfl, fun k x => by kernel_rfl⟩, ⟨rfl, fun _ => rfl, fun k x => by kernel_rfl⟩, ⟨rfl, fun _ => rfl, fun k x => by kernel_rfl⟩, trivial⟩ (fun k x => by kernel_rfl) (fun k => ⟨⟨nat_own.c k, nat_Mul.c k, trivial⟩, trivial, trivial⟩) k
end nat_Pow

namespace nat_Bits
def fws : Nat → List (FuncId × FW) := fun _ => []
def ptL : List (Pt (TD [(.int .i64)])) := []
def fns : Nat → List (FuncId × FS) := fun k => [(73, ⟨[(.list (.int .u32))], [(.list (.int .u32))], fun (x : (List Int)) => nat_trim.f k x⟩), (76, ⟨[(.int .u32)], [(.int .i64)], fun (x : Int) => bits_Len32.f k x⟩)]
def fgs : Nat → List (FuncId × FG) := fun _ => []
def fs (k : Nat) : FS := ⟨[(.list (.int .u32))], [(.int .i64)], fun (x : (List Int)) => nat_Bits.f k x⟩
theorem ok : FnOk Tryz.prog 48 20 Tryz.f48.results.toList (Tryz.f48.body.getD .skip) 1 := ⟨⟨Tryz.f48, by kernel_rfl, by kernel_rfl, by kernel_rfl, rfl, by kernel_rfl⟩, by kernel_rfl, by decide⟩
theorem c (k : Nat) : Contract Tryz.prog 48 (fs k) :=
  fn_sound (ps := [(.list (.int .u32))]) (rs := [(.int .i64)]) (pts := ptL) (fns := fns) (fgs := fgs) (fws := fws) (tys := tyTab) (main := fun k (x : (List Int)) => nat_Bits.f k x) ok mix tyOk trivial (fun k x => by kernel_rfl) (fun k => ⟨⟨nat_trim.c k, bits_Len32.c k, trivial⟩, trivial, trivial⟩) k
end nat_Bits

namespace ratio_Norm
def fws : Nat → List (FuncId × FW) := fun _ => []
def ptL : List (Pt (TD [(.st (.pair (.st (.pair .bool (.list (.int .u32)))) (.list (.int .u32))))])) := []
def fns : Nat → List (FuncId × FS) := fun k => [(48, ⟨[(.list (.int .u32))], [(.int .i64)], fun (x : (List Int)) => nat_Bits.f k x⟩), (39, ⟨[(.st (.pair .bool (.list (.int .u32)))), (.list (.int .u32))], [(.st (.pair (.st (.pair .bool (.list (.int .u32)))) (.list (.int .u32))))], fun (x : (Bool × (List Int)) × (List Int)) => ratio_made.f k x.1 x.2⟩)]
def fgs : Nat → List (FuncId × FG) := fun _ => []
def fs (k : Nat) : FS := ⟨[(.st (.pair (.st (.pair .bool (.list (.int .u32)))) (.list (.int .u32))))], [(.st (.pair (.st (.pair .bool (.list (.int .u32)))) (.list (.int .u32))))], fun (x : ((Bool × (List Int)) × (List Int))) => ratio_Norm.f k x⟩
theorem ok : FnOk Tryz.prog 38 14 Tryz.f38.results.toList (Tryz.f38.body.getD .skip) 1 := ⟨⟨Tryz.f38, by kernel_rfl, by kernel_rfl, by kernel_rfl, rfl, by kernel_rfl⟩, by kernel_rfl, by decide⟩
theorem c (k : Nat) : Contract Tryz.prog 38 (fs k) :=
  fn_sound (ps := [(.st (.pair (.st (.pair .bool (.list (.int .u32)))) (.list (.int .u32))))]) (rs := [(.st (.pair (.st (.pair .bool (.list (.int .u32)))) (.list (.int .u32))))]) (pts := ptL) (fns := fns) (fgs := fgs) (fws := fws) (tys := tyTab) (main := fun k (x : ((Bool × (List Int)) × (List Int))) => ratio_Norm.f k x) ok mix tyOk trivial (fun k x => by kernel_rfl) (fun k => ⟨⟨nat_Bits.c k, ratio_made.c k, trivial⟩, trivial, trivial⟩) k
end ratio_Norm

namespace ratio_Inv
def fws : Nat → List (FuncId × FW) := fun _ => []
def ptL : List (Pt (TD [(.st (.pair (.st (.pair .bool (.list (.int .u32)))) (.list (.int .u32)))), (.int .i64)])) := []
def fns : Nat → List (FuncId × FS) := fun k => [(38, ⟨[(.st (.pair (.st (.pair .bool (.list (.int .u32)))) (.list (.int .u32))))], [(.st (.pair (.st (.pair .bool (.list (.int .u32)))) (.list (.int .u32))))], fun (x : ((Bool × (List Int)) × (List Int))) => ratio_Norm.f k x⟩), (43, ⟨[(.st (.pair .bool (.list (.int .u32)))), (.st (.pair .bool (.list (.int .u32))))], [(.st (.pair (.st (.pair .bool (.list (.int .u32)))) (.list (.int .u32)))), (.int .i64)], fun (x : (Bool × (List Int)) × (Bool × (List Int))) => ratio_Of.f k x.1 x.2⟩)]
def fgs : Nat → List (FuncId × FG) := fun _ => []
def fs (k : Nat) : FS := ⟨[(.st (.pair (.st (.pair .bool (.list (.int .u32)))) (.list (.int .u32))))], [(.st (.pair (.st (.pair .bool (.list (.int .u32)))) (.list (.int .u32)))), (.int .i64)], fun (x : ((Bool × (List Int)) × (List Int))) => ratio_Inv.f k x⟩
theorem ok : FnOk Tryz.prog 47 14 Tryz.f47.results.toList (Tryz.f47.body.getD .skip) 1 := ⟨⟨Tryz.f47, by kernel_rfl, by kernel_rfl, by kernel_rfl, rfl, by kernel_rfl⟩, by kernel_rfl, by decide⟩
theorem c (k : Nat) : Contract Tryz.prog 47 (fs k) :=
  fn_sound (ps := [(.st (.pair (.st (.pair .bool (.list (.int .u32)))) (.list (.int .u32))))]) (rs := [(.st (.pair (.st (.pair .bool (.list (.int .u32)))) (.list (.int .u32)))), (.int .i64)]) (pts := ptL) (fns := fns) (fgs := fgs) (fws := fws) (tys := tyTab) (main := fun k (x : ((Bool × (List Int)) × (List Int))) => ratio_Inv.f k x) ok mix tyOk trivial (fun k x => by kernel_rfl) (fun k => ⟨⟨ratio_Norm.c k, ratio_Of.c k, trivial⟩, trivial, trivial⟩) k
end ratio_Inv

namespace approx_ten
def s0 : PSig := ⟨0, [(35, (.st (.pair (.st (.pair .bool (.list (.int .u32)))) (.list (.int .u32)))), true)], [(0, .val (.int .i64)), (2, .ptr 0 []), (3, .val (.list (.int .u32))), (4, .val (.int .i64))]⟩
def s21 : PSig := ⟨0, [(35, (.st (.pair (.st (.pair .bool (.list (.int .u32)))) (.list (.int .u32)))), true), (35, (.st (.pair (.st (.pair .bool (.list (.int .u32)))) (.list (.int .u32)))), true)], [(2, .ptr 0 []), (7, .ptr 1 [])]⟩
def fws : Nat → List (FuncId × FW) := fun _ => []
def ptL : List (Pt (TD [(.st (.pair (.st (.pair .bool (.list (.int .u32)))) (.list (.int .u32))))])) := [⟨0, s0, fun k (x : ((Bool × (List Int)) × (List Int)) × Int × (List Int) × Int) => approx_ten.p0 k x.1 x.2.1 x.2.2.1 x.2.2.2⟩, ⟨21, s21, fun k (x : ((Bool × (List Int)) × (List Int)) × ((Bool × (List Int)) × (List Int))) => approx_ten.p21 k x.1 x.2⟩]
def fns : Nat → List (FuncId × FS) := fun k => [(45, ⟨[(.int .u64)], [(.list (.int .u32))], fun (x : Int) => nat_Of.f k x⟩), (46, ⟨[(.list (.int .u32)), (.int .i64)], [(.list (.int .u32)), (.int .i64)], fun (x : (List Int) × Int) => nat_Pow.f k x.1 x.2⟩), (41, ⟨[(.list (.int .u32)), (.list (.int .u32))], [(.list (.int .u32))], fun (x : (List Int) × (List Int)) => nat_Mul.f k x.1 x.2⟩), (44, ⟨[(.int .i64)], [(.st (.pair .bool (.list (.int .u32))))], fun (x : Int) => whole_Of.f k x⟩), (43, ⟨[(.st (.pair .bool (.list (.int .u32)))), (.st (.pair .bool (.list (.int .u32))))], [(.st (.pair (.st (.pair .bool (.list (.int .u32)))) (.list (.int .u32)))), (.int .i64)], fun (x : (Bool × (List Int)) × (Bool × (List Int))) => ratio_Of.f k x.1 x.2⟩), (47, ⟨[(.st (.pair (.st (.pair .bool (.list (.int .u32)))) (.list (.int .u32))))], [(.st (.pair (.st (.pair .bool (.list (.int .u32)))) (.list (.int .u32)))), (.int .i64)], fun (x : ((Bool × (List Int)) × (List Int))) => ratio_Inv.f k x⟩)]
def fgs : Nat → List (FuncId × FG) := fun _ => []
def fs (k : Nat) : FS := ⟨[(.int .i64)], [(.st (.pair (.st (.pair .bool (.list (.int .u32)))) (.list (.int .u32))))], fun (x : Int) => approx_ten.f k x⟩
theorem ok : FnOk Tryz.prog 19 43 Tryz.f19.results.toList (Tryz.f19.body.getD .skip) 1 := ⟨⟨Tryz.f19, by kernel_rfl, by kernel_rfl, by kernel_rfl, rfl, by kernel_rfl⟩, by kernel_rfl, by decide⟩
theorem c (k : Nat) : Contract Tryz.prog 19 (fs k) :=
  fn_sound (ps := [(.int .i64)]) (rs := [(.st (.pair (.st (.pair .bool (.list (.int .u32)))) (.list (.int .u32))))]) (pts := ptL) (fns := fns) (fgs := fgs) (fws := fws) (tys := tyTab) (main := fun k (x : Int) => approx_ten.f k x) ok mix tyOk ⟨⟨rfl, fun _ => rfl, fun k x => by kernel_rfl⟩, ⟨rfl, fun _ => rfl, fun k x => by kernel_rfl⟩, trivial⟩ (fun k x => by kernel_rfl) (fun k => ⟨⟨nat_Of.c k, nat_Pow.c k, nat_Mul.c k, whole_Of.c k, ratio_Of.c k, ratio_Inv.c k, trivial⟩, trivial, trivial⟩) k
end approx_ten

namespace whole_Mul
def fws : Nat → List (FuncId × FW) := fun _ => []
def ptL : List (Pt (TD [(.st (.pair .bool (.list (.int .u32))))])) := []
def fns : Nat → List (FuncId × FS) := fun k => [(41, ⟨[(.list (.int .u32)), (.list (.int .u32))], [(.list (.int .u32))], fun (x : (List Int) × (List Int)) => nat_Mul.f k x.1 x.2⟩), (54, ⟨[(.st (.pair .bool (.list (.int .u32))))], [(.int .i64)], fun (x : (Bool × (List Int))) => whole_Sign.f k x⟩), (72, ⟨[(.list (.int .u32)), (.list (.int .i64))], [(.st (.pair .bool (.list (.int .u32))))], fun (x : (List Int) × (List Int)) => whole_signed.f k x.1 x.2⟩)]
def fgs : Nat → List (FuncId × FG) := fun _ => []
def fs (k : Nat) : FS := ⟨[(.st (.pair .bool (.list (.int .u32)))), (.st (.pair .bool (.list (.int .u32))))], [(.st (.pair .bool (.list (.int .u32))))], fun (x : (Bool × (List Int)) × (Bool × (List Int))) => whole_Mul.f k x.1 x.2⟩
theorem ok : FnOk Tryz.prog 40 16 Tryz.f40.results.toList (Tryz.f40.body.getD .skip) 2 := ⟨⟨Tryz.f40, by kernel_rfl, by kernel_rfl, by kernel_rfl, rfl, by kernel_rfl⟩, by kernel_rfl, by decide⟩
theorem c (k : Nat) : Contract Tryz.prog 40 (fs k) :=
  fn_sound (ps := [(.st (.pair .bool (.list (.int .u32)))), (.st (.pair .bool (.list (.int .u32))))]) (rs := [(.st (.pair .bool (.list (.int .u32))))]) (pts := ptL) (fns := fns) (fgs := fgs) (fws := fws) (tys := tyTab) (main := fun k (x : (Bool × (List Int)) × (Bool × (List Int))) => whole_Mul.f k x.1 x.2) ok mix tyOk trivial (fun k x => by kernel_rfl) (fun k => ⟨⟨nat_Mul.c k, whole_Sign.c k, whole_signed.c k, trivial⟩, trivial, trivial⟩) k
end whole_Mul

namespace ratio_Mul
def fws : Nat → List (FuncId × FW) := fun _ => []
def ptL : List (Pt (TD [(.st (.pair (.st (.pair .bool (.list (.int .u32)))) (.list (.int .u32))))])) := []
def fns : Nat → List (FuncId × FS) := fun k => [(38, ⟨[(.st (.pair (.st (.pair .bool (.list (.int .u32)))) (.list (.int .u32))))], [(.st (.pair (.st (.pair .bool (.list (.int .u32)))) (.list (.int .u32))))], fun (x : ((Bool × (List Int)) × (List Int))) => ratio_Norm.f k x⟩), (40, ⟨[(.st (.pair .bool (.list (.int .u32)))), (.st (.pair .bool (.list (.int .u32))))], [(.st (.pair .bool (.list (.int .u32))))], fun (x : (Bool × (List Int)) × (Bool × (List Int))) => whole_Mul.f k x.1 x.2⟩), (41, ⟨[(.list (.int .u32)), (.list (.int .u32))], [(.list (.int .u32))], fun (x : (List Int) × (List Int)) => nat_Mul.f k x.1 x.2⟩), (39, ⟨[(.st (.pair .bool (.list (.int .u32)))), (.list (.int .u32))], [(.st (.pair (.st (.pair .bool (.list (.int .u32)))) (.list (.int .u32))))], fun (x : (Bool × (List Int)) × (List Int)) => ratio_made.f k x.1 x.2⟩)]
def fgs : Nat → List (FuncId × FG) := fun _ => []
def fs (k : Nat) : FS := ⟨[(.st (.pair (.st (.pair .bool (.list (.int .u32)))) (.list (.int .u32)))), (.st (.pair (.st (.pair .bool (.list (.int .u32)))) (.list (.int .u32))))], [(.st (.pair (.st (.pair .bool (.list (.int .u32)))) (.list (.int .u32))))], fun (x : ((Bool × (List Int)) × (List Int)) × ((Bool × (List Int)) × (List Int))) => ratio_Mul.f k x.1 x.2⟩
theorem ok : FnOk Tryz.prog 17 20 Tryz.f17.results.toList (Tryz.f17.body.getD .skip) 2 := ⟨⟨Tryz.f17, by kernel_rfl, by kernel_rfl, by kernel_rfl, rfl, by kernel_rfl⟩, by kernel_rfl, by decide⟩
theorem c (k : Nat) : Contract Tryz.prog 17 (fs k) :=
  fn_sound (ps := [(.st (.pair (.st (.pair .bool (.list (.int .u32)))) (.list (.int .u32)))), (.st (.pair (.st (.pair .bool (.list (.int .u32)))) (.list (.int .u32))))]) (rs := [(.st (.pair (.st (.pair .bool (.list (.int .u32)))) (.list (.int .u32))))]) (pts := ptL) (fns := fns) (fgs := fgs) (fws := fws) (tys := tyTab) (main := fun k (x : ((Bool × (List Int)) × (List Int)) × ((Bool × (List Int)) × (List Int))) => ratio_Mul.f k x.1 x.2) ok mix tyOk trivial (fun k x => by kernel_rfl) (fun k => ⟨⟨ratio_Norm.c k, whole_Mul.c k, nat_Mul.c k, ratio_made.c k, trivial⟩, trivial, trivial⟩) k
end ratio_Mul

namespace approx_decimal
def s21 : PSig := ⟨0, [(35, (.st (.pair (.st (.pair .bool (.list (.int .u32)))) (.list (.int .u32)))), true)], [(2, .ptr 0 []), (4, .val .str), (5, .val .str), (6, .val .str)]⟩
def s29 : PSig := ⟨0, [(35, (.st (.pair (.st (.pair .bool (.list (.int .u32)))) (.list (.int .u32)))), true)], [(2, .ptr 0 []), (4, .val .str), (5, .val .str), (6, .val .str)]⟩
def fws : Nat → List (FuncId × FW) := fun _ => []
def ptL : List (Pt (TD [(.st (.pair (.st (.pair .bool (.list (.int .u32)))) (.list (.int .u32)))), .bool])) := [⟨21, s21, fun k (x : ((Bool × (List Int)) × (List Int)) × ByteArray × ByteArray × ByteArray) => approx_decimal.p21 k x.1 x.2.1 x.2.2.1 x.2.2.2⟩, ⟨29, s29, fun k (x : ((Bool × (List Int)) × (List Int)) × ByteArray × ByteArray × ByteArray) => approx_decimal.p29 k x.1 x.2.1 x.2.2.1 x.2.2.2⟩]
def fns : Nat → List (FuncId × FS) := fun k => [(15, ⟨[.str], [.str, .str], fun (x : ByteArray) => approx_digits.f k x⟩), (7, ⟨[.str, .str], [.str, .bool], fun (x : ByteArray × ByteArray) => strings_CutPrefix.f k x.1 x.2⟩), (16, ⟨[.str], [(.int .i64), .bool], fun (x : ByteArray) => approx_exponent.f k x⟩), (18, ⟨[.str], [(.st (.pair (.st (.pair .bool (.list (.int .u32)))) (.list (.int .u32))))], fun (x : ByteArray) => approx_number.f k x⟩), (19, ⟨[(.int .i64)], [(.st (.pair (.st (.pair .bool (.list (.int .u32)))) (.list (.int .u32))))], fun (x : Int) => approx_ten.f k x⟩), (17, ⟨[(.st (.pair (.st (.pair .bool (.list (.int .u32)))) (.list (.int .u32)))), (.st (.pair (.st (.pair .bool (.list (.int .u32)))) (.list (.int .u32))))], [(.st (.pair (.st (.pair .bool (.list (.int .u32)))) (.list (.int .u32))))], fun (x : ((Bool × (List Int)) × (List Int)) × ((Bool × (List Int)) × (List Int))) => ratio_Mul.f k x.1 x.2⟩)]
def fgs : Nat → List (FuncId × FG) := fun _ => []
def fs (k : Nat) : FS := ⟨[.str], [(.st (.pair (.st (.pair .bool (.list (.int .u32)))) (.list (.int .u32)))), .bool], fun (x : ByteArray) => approx_decimal.f k x⟩
theorem ok : FnOk Tryz.prog 8 63 Tryz.f8.results.toList (Tryz.f8.body.getD .skip) 1 := ⟨⟨Tryz.f8, by kernel_rfl, by kernel_rfl, by kernel_rfl, rfl, by kernel_rfl⟩, by kernel_rfl, by decide⟩
theorem c (k : Nat) : Contract Tryz.prog 8 (fs k) :=
  fn_sound (ps := [.str]) (rs := [(.st (.pair (.st (.pair .bool (.list (.int .u32)))) (.list (.int .u32)))), .bool]) (pts := ptL) (fns := fns) (fgs := fgs) (fws := fws) (tys := tyTab) (main := fun k (x : ByteArray) => approx_decimal.f k x) ok mix tyOk ⟨⟨rfl, fun _ => rfl, fun k x => by kernel_rfl⟩, ⟨rfl, fun _ => rfl, fun k x => by kernel_rfl⟩, trivial⟩ (fun k x => by kernel_rfl) (fun k => ⟨⟨approx_digits.c k, strings_CutPrefix.c k, approx_exponent.c k, approx_number.c k, approx_ten.c k, ratio_Mul.c k, trivial⟩, trivial, trivial⟩) k
end approx_decimal

namespace ratio_Sign
def fws : Nat → List (FuncId × FW) := fun _ => []
def ptL : List (Pt (TD [(.int .i64)])) := []
def fns : Nat → List (FuncId × FS) := fun k => [(38, ⟨[(.st (.pair (.st (.pair .bool (.list (.int .u32)))) (.list (.int .u32))))], [(.st (.pair (.st (.pair .bool (.list (.int .u32)))) (.list (.int .u32))))], fun (x : ((Bool × (List Int)) × (List Int))) => ratio_Norm.f k x⟩), (54, ⟨[(.st (.pair .bool (.list (.int .u32))))], [(.int .i64)], fun (x : (Bool × (List Int))) => whole_Sign.f k x⟩)]
def fgs : Nat → List (FuncId × FG) := fun _ => []
def fs (k : Nat) : FS := ⟨[(.st (.pair (.st (.pair .bool (.list (.int .u32)))) (.list (.int .u32))))], [(.int .i64)], fun (x : ((Bool × (List Int)) × (List Int))) => ratio_Sign.f k x⟩
theorem ok : FnOk Tryz.prog 23 7 Tryz.f23.results.toList (Tryz.f23.body.getD .skip) 1 := ⟨⟨Tryz.f23, by kernel_rfl, by kernel_rfl, by kernel_rfl, rfl, by kernel_rfl⟩, by kernel_rfl, by decide⟩
theorem c (k : Nat) : Contract Tryz.prog 23 (fs k) :=
  fn_sound (ps := [(.st (.pair (.st (.pair .bool (.list (.int .u32)))) (.list (.int .u32))))]) (rs := [(.int .i64)]) (pts := ptL) (fns := fns) (fgs := fgs) (fws := fws) (tys := tyTab) (main := fun k (x : ((Bool × (List Int)) × (List Int))) => ratio_Sign.f k x) ok mix tyOk trivial (fun k x => by kernel_rfl) (fun k => ⟨⟨ratio_Norm.c k, whole_Sign.c k, trivial⟩, trivial, trivial⟩) k
end ratio_Sign

namespace ratio_Neg
def fws : Nat → List (FuncId × FW) := fun _ => []
def ptL : List (Pt (TD [(.st (.pair (.st (.pair .bool (.list (.int .u32)))) (.list (.int .u32))))])) := []
def fns : Nat → List (FuncId × FS) := fun k => [(38, ⟨[(.st (.pair (.st (.pair .bool (.list (.int .u32)))) (.list (.int .u32))))], [(.st (.pair (.st (.pair .bool (.list (.int .u32)))) (.list (.int .u32))))], fun (x : ((Bool × (List Int)) × (List Int))) => ratio_Norm.f k x⟩), (75, ⟨[(.st (.pair .bool (.list (.int .u32))))], [(.st (.pair .bool (.list (.int .u32))))], fun (x : (Bool × (List Int))) => whole_Neg.f k x⟩)]
def fgs : Nat → List (FuncId × FG) := fun _ => []
def fs (k : Nat) : FS := ⟨[(.st (.pair (.st (.pair .bool (.list (.int .u32)))) (.list (.int .u32))))], [(.st (.pair (.st (.pair .bool (.list (.int .u32)))) (.list (.int .u32))))], fun (x : ((Bool × (List Int)) × (List Int))) => ratio_Neg.f k x⟩
theorem ok : FnOk Tryz.prog 53 11 Tryz.f53.results.toList (Tryz.f53.body.getD .skip) 1 := ⟨⟨Tryz.f53, by kernel_rfl, by kernel_rfl, by kernel_rfl, rfl, by kernel_rfl⟩, by kernel_rfl, by decide⟩
theorem c (k : Nat) : Contract Tryz.prog 53 (fs k) :=
  fn_sound (ps := [(.st (.pair (.st (.pair .bool (.list (.int .u32)))) (.list (.int .u32))))]) (rs := [(.st (.pair (.st (.pair .bool (.list (.int .u32)))) (.list (.int .u32))))]) (pts := ptL) (fns := fns) (fgs := fgs) (fws := fws) (tys := tyTab) (main := fun k (x : ((Bool × (List Int)) × (List Int))) => ratio_Neg.f k x) ok mix tyOk trivial (fun k x => by kernel_rfl) (fun k => ⟨⟨ratio_Norm.c k, whole_Neg.c k, trivial⟩, trivial, trivial⟩) k
end ratio_Neg

namespace ratio_Abs
def fws : Nat → List (FuncId × FW) := fun _ => []
def ptL : List (Pt (TD [(.st (.pair (.st (.pair .bool (.list (.int .u32)))) (.list (.int .u32))))])) := []
def fns : Nat → List (FuncId × FS) := fun k => [(23, ⟨[(.st (.pair (.st (.pair .bool (.list (.int .u32)))) (.list (.int .u32))))], [(.int .i64)], fun (x : ((Bool × (List Int)) × (List Int))) => ratio_Sign.f k x⟩), (53, ⟨[(.st (.pair (.st (.pair .bool (.list (.int .u32)))) (.list (.int .u32))))], [(.st (.pair (.st (.pair .bool (.list (.int .u32)))) (.list (.int .u32))))], fun (x : ((Bool × (List Int)) × (List Int))) => ratio_Neg.f k x⟩), (38, ⟨[(.st (.pair (.st (.pair .bool (.list (.int .u32)))) (.list (.int .u32))))], [(.st (.pair (.st (.pair .bool (.list (.int .u32)))) (.list (.int .u32))))], fun (x : ((Bool × (List Int)) × (List Int))) => ratio_Norm.f k x⟩)]
def fgs : Nat → List (FuncId × FG) := fun _ => []
def fs (k : Nat) : FS := ⟨[(.st (.pair (.st (.pair .bool (.list (.int .u32)))) (.list (.int .u32))))], [(.st (.pair (.st (.pair .bool (.list (.int .u32)))) (.list (.int .u32))))], fun (x : ((Bool × (List Int)) × (List Int))) => ratio_Abs.f k x⟩
theorem ok : FnOk Tryz.prog 21 10 Tryz.f21.results.toList (Tryz.f21.body.getD .skip) 1 := ⟨⟨Tryz.f21, by kernel_rfl, by kernel_rfl, by kernel_rfl, rfl, by kernel_rfl⟩, by kernel_rfl, by decide⟩
theorem c (k : Nat) : Contract Tryz.prog 21 (fs k) :=
  fn_sound (ps := [(.st (.pair (.st (.pair .bool (.list (.int .u32)))) (.list (.int .u32))))]) (rs := [(.st (.pair (.st (.pair .bool (.list (.int .u32)))) (.list (.int .u32))))]) (pts := ptL) (fns := fns) (fgs := fgs) (fws := fws) (tys := tyTab) (main := fun k (x : ((Bool × (List Int)) × (List Int))) => ratio_Abs.f k x) ok mix tyOk trivial (fun k x => by kernel_rfl) (fun k => ⟨⟨ratio_Sign.c k, ratio_Neg.c k, ratio_Norm.c k, trivial⟩, trivial, trivial⟩) k
end ratio_Abs

namespace math_Float64bits
theorem c (k : Nat) : Contract Tryz.prog 13 ⟨[.flt], [(.int .u64)], fun (x : Nat) => math_Float64bits.f k x⟩ :=
  float64bits_contract (fn := Tryz.f13) (by kernel_rfl) (by kernel_rfl) (by kernel_rfl) (by kernel_rfl) (by kernel_rfl) (fun _ => rfl)
end math_Float64bits

namespace nat_Shift
def s5 : PSig := ⟨0, [], []⟩
def s0 : PSig := ⟨0, [(91, (.int .u32), false)], [(0, .val (.list (.int .u32))), (8, .val (.int .i64)), (9, .own 0), (56, .val (.int .i64)), (57, .val (.int .i64))]⟩
def s39 : PSig := ⟨0, [(91, (.int .u32), false)], [(0, .val (.list (.int .u32))), (8, .val (.int .i64)), (9, .own 0), (56, .val (.int .i64)), (57, .val (.int .i64))]⟩
def fws : Nat → List (FuncId × FW) := fun _ => []
def ptL : List (Pt (TD [(.list (.int .u32)), (.int .i64)])) := [⟨5, s5, fun k (x : Unit) => nat_Shift.p5 k x⟩, ⟨0, s0, fun k (x : (List Int) × (List Int) × Int × Int × Int) => nat_Shift.p0 k x.1 x.2.1 x.2.2.1 x.2.2.2.1 x.2.2.2.2⟩, ⟨39, s39, fun k (x : (List Int) × (List Int) × Int × Int × Int) => nat_Shift.p39 k x.1 x.2.1 x.2.2.1 x.2.2.2.1 x.2.2.2.2⟩]
def fns : Nat → List (FuncId × FS) := fun k => [(73, ⟨[(.list (.int .u32))], [(.list (.int .u32))], fun (x : (List Int)) => nat_trim.f k x⟩), (96, ⟨[(.list (.int .u32)), (.int .i64)], [(.list (.int .u32))], fun (x : (List Int) × Int) => nat_moved.f k x.1 x.2⟩), (74, ⟨[(.list (.int .u32))], [(.list (.int .u32))], fun (x : (List Int)) => nat_own.f k x⟩)]
def fgs : Nat → List (FuncId × FG) := fun _ => []
def fs (k : Nat) : FS := ⟨[(.list (.int .u32)), (.int .i64)], [(.list (.int .u32)), (.int .i64)], fun (x : (List Int) × Int) => nat_Shift.f k x.1 x.2⟩
theorem ok : FnOk Tryz.prog 77 93 Tryz.f77.results.toList (Tryz.f77.body.getD .skip) 2 := ⟨⟨Tryz.f77, by kernel_rfl, by kernel_rfl, by kernel_rfl, rfl, by kernel_rfl⟩, by kernel_rfl, by decide⟩
theorem c (k : Nat) : Contract Tryz.prog 77 (fs k) :=
  fn_sound (ps := [(.list (.int .u32)), (.int .i64)]) (rs := [(.list (.int .u32)), (.int .i64)]) (pts := ptL) (fns := fns) (fgs := fgs) (fws := fws) (tys := tyTab) (main := fun k (x : (List Int) × Int) => nat_Shift.f k x.1 x.2) ok mix tyOk ⟨⟨rfl, fun _ => rfl, fun k x => by kernel_rfl⟩, ⟨rfl, fun _ => rfl, fun k x => by kernel_rfl⟩, ⟨rfl, fun _ => rfl, fun k x => by kernel_rfl⟩, trivial⟩ (fun k x => by kernel_rfl) (fun k => ⟨⟨nat_trim.c k, nat_moved.c k, nat_own.c k, trivial⟩, trivial, trivial⟩) k
end nat_Shift

namespace approx_cut
def s9 : PSig := ⟨0, [], [(0, .val (.list (.int .u32))), (1, .val (.list (.int .u32)))]⟩
def fws : Nat → List (FuncId × FW) := fun _ => []
def ptL : List (Pt (TD [(.list (.int .u32)), (.list (.int .u32)), (.list (.int .u32))])) := [⟨9, s9, fun k (x : (List Int) × (List Int)) => approx_cut.p9 k x.1 x.2⟩]
def fns : Nat → List (FuncId × FS) := fun k => [(77, ⟨[(.list (.int .u32)), (.int .i64)], [(.list (.int .u32)), (.int .i64)], fun (x : (List Int) × Int) => nat_Shift.f k x.1 x.2⟩), (70, ⟨[(.list (.int .u32)), (.list (.int .u32))], [(.list (.int .u32)), (.list (.int .u32)), (.int .i64)], fun (x : (List Int) × (List Int)) => nat_Div.f k x.1 x.2⟩)]
def fgs : Nat → List (FuncId × FG) := fun _ => []
def fs (k : Nat) : FS := ⟨[(.list (.int .u32)), (.list (.int .u32)), (.int .i64)], [(.list (.int .u32)), (.list (.int .u32)), (.list (.int .u32))], fun (x : (List Int) × (List Int) × Int) => approx_cut.f k x.1 x.2.1 x.2.2⟩
theorem ok : FnOk Tryz.prog 49 37 Tryz.f49.results.toList (Tryz.f49.body.getD .skip) 3 := ⟨⟨Tryz.f49, by kernel_rfl, by kernel_rfl, by kernel_rfl, rfl, by kernel_rfl⟩, by kernel_rfl, by decide⟩
theorem c (k : Nat) : Contract Tryz.prog 49 (fs k) :=
  fn_sound (ps := [(.list (.int .u32)), (.list (.int .u32)), (.int .i64)]) (rs := [(.list (.int .u32)), (.list (.int .u32)), (.list (.int .u32))]) (pts := ptL) (fns := fns) (fgs := fgs) (fws := fws) (tys := tyTab) (main := fun k (x : (List Int) × (List Int) × Int) => approx_cut.f k x.1 x.2.1 x.2.2) ok mix tyOk ⟨⟨rfl, fun _ => rfl, fun k x => by kernel_rfl⟩, trivial⟩ (fun k x => by kernel_rfl) (fun k => ⟨⟨nat_Shift.c k, nat_Div.c k, trivial⟩, trivial, trivial⟩) k
end approx_cut

namespace nat_Small
def s0 : PSig := ⟨0, [], [(0, .val (.list (.int .u32))), (4, .val (.int .u64)), (12, .val (.int .i64)), (13, .val (.int .i64))]⟩
def fws : Nat → List (FuncId × FW) := fun _ => []
def ptL : List (Pt (TD [(.int .u64), .bool])) := [⟨0, s0, fun k (x : (List Int) × Int × Int × Int) => nat_Small.p0 k x.1 x.2.1 x.2.2.1 x.2.2.2⟩]
def fns : Nat → List (FuncId × FS) := fun k => [(73, ⟨[(.list (.int .u32))], [(.list (.int .u32))], fun (x : (List Int)) => nat_trim.f k x⟩)]
def fgs : Nat → List (FuncId × FG) := fun _ => []
def fs (k : Nat) : FS := ⟨[(.list (.int .u32))], [(.int .u64), .bool], fun (x : (List Int)) => nat_Small.f k x⟩
theorem ok : FnOk Tryz.prog 50 28 Tryz.f50.results.toList (Tryz.f50.body.getD .skip) 1 := ⟨⟨Tryz.f50, by kernel_rfl, by kernel_rfl, by kernel_rfl, rfl, by kernel_rfl⟩, by kernel_rfl, by decide⟩
theorem c (k : Nat) : Contract Tryz.prog 50 (fs k) :=
  fn_sound (ps := [(.list (.int .u32))]) (rs := [(.int .u64), .bool]) (pts := ptL) (fns := fns) (fgs := fgs) (fws := fws) (tys := tyTab) (main := fun k (x : (List Int)) => nat_Small.f k x) ok mix tyOk ⟨⟨rfl, fun _ => rfl, fun k x => by kernel_rfl⟩, trivial⟩ (fun k x => by kernel_rfl) (fun k => ⟨⟨nat_trim.c k, trivial⟩, trivial, trivial⟩) k
end nat_Small

namespace nat_Add
def s7 : PSig := ⟨0, [], [(0, .val (.list (.int .u32))), (1, .val (.list (.int .u32)))]⟩
def s0 : PSig := ⟨0, [(91, (.int .u32), false)], [(0, .val (.list (.int .u32))), (1, .val (.list (.int .u32))), (5, .own 0), (6, .val (.int .u32)), (21, .val (.int .i64)), (22, .val (.int .i64))]⟩
def s23 : PSig := ⟨0, [(91, (.int .u32), false)], [(0, .val (.list (.int .u32))), (1, .val (.list (.int .u32))), (5, .own 0), (6, .val (.int .u32)), (7, .val (.int .i64)), (8, .val (.int .u32)), (21, .val (.int .i64)), (22, .val (.int .i64))]⟩
def fws : Nat → List (FuncId × FW) := fun _ => []
def ptL : List (Pt (TD [(.list (.int .u32))])) := [⟨7, s7, fun k (x : (List Int) × (List Int)) => nat_Add.p7 k x.1 x.2⟩, ⟨0, s0, fun k (x : (List Int) × (List Int) × (List Int) × Int × Int × Int) => nat_Add.p0 k x.1 x.2.1 x.2.2.1 x.2.2.2.1 x.2.2.2.2.1 x.2.2.2.2.2⟩, ⟨23, s23, fun k (x : (List Int) × (List Int) × (List Int) × Int × Int × Int × Int × Int) => nat_Add.p23 k x.1 x.2.1 x.2.2.1 x.2.2.2.1 x.2.2.2.2.1 x.2.2.2.2.2.1 x.2.2.2.2.2.2.1 x.2.2.2.2.2.2.2⟩]
def fns : Nat → List (FuncId × FS) := fun k => [(78, ⟨[(.int .u32), (.int .u32), (.int .u32)], [(.int .u32), (.int .u32)], fun (x : Int × Int × Int) => bits_Add32.f k x.1 x.2.1 x.2.2⟩), (74, ⟨[(.list (.int .u32))], [(.list (.int .u32))], fun (x : (List Int)) => nat_own.f k x⟩)]
def fgs : Nat → List (FuncId × FG) := fun _ => []
def fs (k : Nat) : FS := ⟨[(.list (.int .u32)), (.list (.int .u32))], [(.list (.int .u32))], fun (x : (List Int) × (List Int)) => nat_Add.f k x.1 x.2⟩
theorem ok : FnOk Tryz.prog 52 54 Tryz.f52.results.toList (Tryz.f52.body.getD .skip) 2 := ⟨⟨Tryz.f52, by kernel_rfl, by kernel_rfl, by kernel_rfl, rfl, by kernel_rfl⟩, by kernel_rfl, by decide⟩
theorem c (k : Nat) : Contract Tryz.prog 52 (fs k) :=
  fn_sound (ps := [(.list (.int .u32)), (.list (.int .u32))]) (rs := [(.list (.int .u32))]) (pts := ptL) (fns := fns) (fgs := fgs) (fws := fws) (tys := tyTab) (main := fun k (x : (List Int) × (List Int)) => nat_Add.f k x.1 x.2) ok mix tyOk ⟨⟨rfl, fun _ => rfl, fun k x => by kernel_rfl⟩, ⟨rfl, fun _ => rfl, fun k x => by kernel_rfl⟩, ⟨rfl, fun _ => rfl, fun k x => by kernel_rfl⟩, trivial⟩ (fun k x => by kernel_rfl) (fun k => ⟨⟨bits_Add32.c k, nat_own.c k, trivial⟩, trivial, trivial⟩) k
end nat_Add

namespace approx_rounded
def s29 : PSig := ⟨0, [], [(7, .val (.int .i64)), (8, .val (.list (.int .u32))), (9, .val (.list (.int .u32))), (10, .val (.list (.int .u32)))]⟩
def s41 : PSig := ⟨0, [], [(9, .val (.list (.int .u32))), (10, .val (.list (.int .u32))), (13, .val (.int .u64))]⟩
def fws : Nat → List (FuncId × FW) := fun _ => []
def ptL : List (Pt (TD [(.int .u64), (.int .i64)])) := [⟨29, s29, fun k (x : Int × (List Int) × (List Int) × (List Int)) => approx_rounded.p29 k x.1 x.2.1 x.2.2.1 x.2.2.2⟩, ⟨41, s41, fun k (x : (List Int) × (List Int) × Int) => approx_rounded.p41 k x.1 x.2.1 x.2.2⟩]
def fns : Nat → List (FuncId × FS) := fun k => [(23, ⟨[(.st (.pair (.st (.pair .bool (.list (.int .u32)))) (.list (.int .u32))))], [(.int .i64)], fun (x : ((Bool × (List Int)) × (List Int))) => ratio_Sign.f k x⟩), (48, ⟨[(.list (.int .u32))], [(.int .i64)], fun (x : (List Int)) => nat_Bits.f k x⟩), (13, ⟨[.flt], [(.int .u64)], fun (x : Nat) => math_Float64bits.f k x⟩), (49, ⟨[(.list (.int .u32)), (.list (.int .u32)), (.int .i64)], [(.list (.int .u32)), (.list (.int .u32)), (.list (.int .u32))], fun (x : (List Int) × (List Int) × Int) => approx_cut.f k x.1 x.2.1 x.2.2⟩), (50, ⟨[(.list (.int .u32))], [(.int .u64), .bool], fun (x : (List Int)) => nat_Small.f k x⟩), (52, ⟨[(.list (.int .u32)), (.list (.int .u32))], [(.list (.int .u32))], fun (x : (List Int) × (List Int)) => nat_Add.f k x.1 x.2⟩), (51, ⟨[(.list (.int .u32)), (.list (.int .u32))], [(.int .i64)], fun (x : (List Int) × (List Int)) => nat_Cmp.f k x.1 x.2⟩)]
def fgs : Nat → List (FuncId × FG) := fun _ => []
def fs (k : Nat) : FS := ⟨[(.st (.pair (.st (.pair .bool (.list (.int .u32)))) (.list (.int .u32))))], [(.int .u64), (.int .i64)], fun (x : ((Bool × (List Int)) × (List Int))) => approx_rounded.f k x⟩
theorem ok : FnOk Tryz.prog 20 89 Tryz.f20.results.toList (Tryz.f20.body.getD .skip) 1 := ⟨⟨Tryz.f20, by kernel_rfl, by kernel_rfl, by kernel_rfl, rfl, by kernel_rfl⟩, by kernel_rfl, by decide⟩
theorem c (k : Nat) : Contract Tryz.prog 20 (fs k) :=
  fn_sound (ps := [(.st (.pair (.st (.pair .bool (.list (.int .u32)))) (.list (.int .u32))))]) (rs := [(.int .u64), (.int .i64)]) (pts := ptL) (fns := fns) (fgs := fgs) (fws := fws) (tys := tyTab) (main := fun k (x : ((Bool × (List Int)) × (List Int))) => approx_rounded.f k x) ok mix tyOk ⟨⟨rfl, fun _ => rfl, fun k x => by kernel_rfl⟩, ⟨rfl, fun _ => rfl, fun k x => by kernel_rfl⟩, trivial⟩ (fun k x => by kernel_rfl) (fun k => ⟨⟨ratio_Sign.c k, nat_Bits.c k, math_Float64bits.c k, approx_cut.c k, nat_Small.c k, nat_Add.c k, nat_Cmp.c k, trivial⟩, trivial, trivial⟩) k
end approx_rounded

namespace math_Float64frombits
theorem c (k : Nat) : Contract Tryz.prog 12 ⟨[(.int .u64)], [.flt], fun (x : Int) => math_Float64frombits.f k x⟩ :=
  float64frombits_contract (fn := Tryz.f12) (by kernel_rfl) (by kernel_rfl) (by kernel_rfl) (by kernel_rfl) (by kernel_rfl) (fun _ => rfl)
end math_Float64frombits

namespace approx_float
def s7 : PSig := ⟨0, [], [(0, .val (.int .u64))]⟩
def fws : Nat → List (FuncId × FW) := fun _ => []
def ptL : List (Pt (TD [.flt])) := [⟨7, s7, fun k (x : Int) => approx_float.p7 k x⟩]
def fns : Nat → List (FuncId × FS) := fun k => [(12, ⟨[(.int .u64)], [.flt], fun (x : Int) => math_Float64frombits.f k x⟩)]
def fgs : Nat → List (FuncId × FG) := fun _ => []
def fs (k : Nat) : FS := ⟨[(.int .u64), (.int .i64)], [.flt], fun (x : Int × Int) => approx_float.f k x.1 x.2⟩
theorem ok : FnOk Tryz.prog 22 11 Tryz.f22.results.toList (Tryz.f22.body.getD .skip) 2 := ⟨⟨Tryz.f22, by kernel_rfl, by kernel_rfl, by kernel_rfl, rfl, by kernel_rfl⟩, by kernel_rfl, by decide⟩
theorem c (k : Nat) : Contract Tryz.prog 22 (fs k) :=
  fn_sound (ps := [(.int .u64), (.int .i64)]) (rs := [.flt]) (pts := ptL) (fns := fns) (fgs := fgs) (fws := fws) (tys := tyTab) (main := fun k (x : Int × Int) => approx_float.f k x.1 x.2) ok mix tyOk ⟨⟨rfl, fun _ => rfl, fun k x => by kernel_rfl⟩, trivial⟩ (fun k x => by kernel_rfl) (fun k => ⟨⟨math_Float64frombits.c k, trivial⟩, trivial, trivial⟩) k
end approx_float

namespace approx_Nearest
def s7 : PSig := ⟨0, [(35, (.st (.pair (.st (.pair .bool (.list (.int .u32)))) (.list (.int .u32)))), true)], [(1, .ptr 0 []), (3, .val (.int .u64))]⟩
def s9 : PSig := ⟨0, [(35, (.st (.pair (.st (.pair .bool (.list (.int .u32)))) (.list (.int .u32)))), true)], [(1, .ptr 0 []), (3, .val (.int .u64))]⟩
def fws : Nat → List (FuncId × FW) := fun _ => []
def ptL : List (Pt (TD [.flt])) := [⟨7, s7, fun k (x : ((Bool × (List Int)) × (List Int)) × Int) => approx_Nearest.p7 k x.1 x.2⟩, ⟨9, s9, fun k (x : ((Bool × (List Int)) × (List Int)) × Int) => approx_Nearest.p9 k x.1 x.2⟩]
def fns : Nat → List (FuncId × FS) := fun k => [(21, ⟨[(.st (.pair (.st (.pair .bool (.list (.int .u32)))) (.list (.int .u32))))], [(.st (.pair (.st (.pair .bool (.list (.int .u32)))) (.list (.int .u32))))], fun (x : ((Bool × (List Int)) × (List Int))) => ratio_Abs.f k x⟩), (20, ⟨[(.st (.pair (.st (.pair .bool (.list (.int .u32)))) (.list (.int .u32))))], [(.int .u64), (.int .i64)], fun (x : ((Bool × (List Int)) × (List Int))) => approx_rounded.f k x⟩), (23, ⟨[(.st (.pair (.st (.pair .bool (.list (.int .u32)))) (.list (.int .u32))))], [(.int .i64)], fun (x : ((Bool × (List Int)) × (List Int))) => ratio_Sign.f k x⟩), (22, ⟨[(.int .u64), (.int .i64)], [.flt], fun (x : Int × Int) => approx_float.f k x.1 x.2⟩)]
def fgs : Nat → List (FuncId × FG) := fun _ => []
def fs (k : Nat) : FS := ⟨[(.st (.pair (.st (.pair .bool (.list (.int .u32)))) (.list (.int .u32))))], [.flt], fun (x : ((Bool × (List Int)) × (List Int))) => approx_Nearest.f k x⟩
theorem ok : FnOk Tryz.prog 9 28 Tryz.f9.results.toList (Tryz.f9.body.getD .skip) 1 := ⟨⟨Tryz.f9, by kernel_rfl, by kernel_rfl, by kernel_rfl, rfl, by kernel_rfl⟩, by kernel_rfl, by decide⟩
theorem c (k : Nat) : Contract Tryz.prog 9 (fs k) :=
  fn_sound (ps := [(.st (.pair (.st (.pair .bool (.list (.int .u32)))) (.list (.int .u32))))]) (rs := [.flt]) (pts := ptL) (fns := fns) (fgs := fgs) (fws := fws) (tys := tyTab) (main := fun k (x : ((Bool × (List Int)) × (List Int))) => approx_Nearest.f k x) ok mix tyOk ⟨⟨rfl, fun _ => rfl, fun k x => by kernel_rfl⟩, ⟨rfl, fun _ => rfl, fun k x => by kernel_rfl⟩, trivial⟩ (fun k x => by kernel_rfl) (fun k => ⟨⟨ratio_Abs.c k, approx_rounded.c k, ratio_Sign.c k, approx_float.c k, trivial⟩, trivial, trivial⟩) k
end approx_Nearest

namespace approx_Read
def fws : Nat → List (FuncId × FW) := fun _ => []
def ptL : List (Pt (TD [.flt, (.int .i64)])) := []
def fns : Nat → List (FuncId × FS) := fun k => [(7, ⟨[.str, .str], [.str, .bool], fun (x : ByteArray × ByteArray) => strings_CutPrefix.f k x.1 x.2⟩), (8, ⟨[.str], [(.st (.pair (.st (.pair .bool (.list (.int .u32)))) (.list (.int .u32)))), .bool], fun (x : ByteArray) => approx_decimal.f k x⟩), (9, ⟨[(.st (.pair (.st (.pair .bool (.list (.int .u32)))) (.list (.int .u32))))], [.flt], fun (x : ((Bool × (List Int)) × (List Int))) => approx_Nearest.f k x⟩)]
def fgs : Nat → List (FuncId × FG) := fun _ => []
def fs (k : Nat) : FS := ⟨[.str], [.flt, (.int .i64)], fun (x : ByteArray) => approx_Read.f k x⟩
theorem ok : FnOk Tryz.prog 4 31 Tryz.f4.results.toList (Tryz.f4.body.getD .skip) 1 := ⟨⟨Tryz.f4, by kernel_rfl, by kernel_rfl, by kernel_rfl, rfl, by kernel_rfl⟩, by kernel_rfl, by decide⟩
theorem c (k : Nat) : Contract Tryz.prog 4 (fs k) :=
  fn_sound (ps := [.str]) (rs := [.flt, (.int .i64)]) (pts := ptL) (fns := fns) (fgs := fgs) (fws := fws) (tys := tyTab) (main := fun k (x : ByteArray) => approx_Read.f k x) ok mix tyOk trivial (fun k x => by kernel_rfl) (fun k => ⟨⟨strings_CutPrefix.c k, approx_decimal.c k, approx_Nearest.c k, trivial⟩, trivial, trivial⟩) k
end approx_Read

namespace ref04_digitsAt
def s0 : PSig := ⟨0, [], [(0, .val .str), (1, .val (.int .i64))]⟩
def s7 : PSig := ⟨0, [], [(1, .val (.int .i64))]⟩
def fws : Nat → List (FuncId × FW) := fun _ => []
def ptL : List (Pt (TD [(.int .i64)])) := [⟨0, s0, fun k (x : ByteArray × Int) => ref04_digitsAt.p0 k x.1 x.2⟩, ⟨7, s7, fun k (x : Int) => ref04_digitsAt.p7 k x⟩]
def fns : Nat → List (FuncId × FS) := fun _ => []
def fgs : Nat → List (FuncId × FG) := fun _ => []
def fs (k : Nat) : FS := ⟨[.str, (.int .i64)], [(.int .i64)], fun (x : ByteArray × Int) => ref04_digitsAt.f k x.1 x.2⟩
theorem ok : FnOk Tryz.prog 24 24 Tryz.f24.results.toList (Tryz.f24.body.getD .skip) 2 := ⟨⟨Tryz.f24, by kernel_rfl, by kernel_rfl, by kernel_rfl, rfl, by kernel_rfl⟩, by kernel_rfl, by decide⟩
theorem c (k : Nat) : Contract Tryz.prog 24 (fs k) :=
  fn_sound (ps := [.str, (.int .i64)]) (rs := [(.int .i64)]) (pts := ptL) (fns := fns) (fgs := fgs) (fws := fws) (tys := tyTab) (main := fun k (x : ByteArray × Int) => ref04_digitsAt.f k x.1 x.2) ok mix tyOk ⟨⟨rfl, fun _ => rfl, fun k x => by kernel_rfl⟩, ⟨rfl, fun _ => rfl, fun k x => by kernel_rfl⟩, trivial⟩ (fun k x => by kernel_rfl) (fun _ => ⟨trivial, trivial, trivial⟩) k
end ref04_digitsAt

namespace ref01_digit
def s0 : PSig := ⟨0, [], [(0, .val (.int .u8)), (1, .val (.int .i64)), (5, .val (.int .i64))]⟩
def fws : Nat → List (FuncId × FW) := fun _ => []
def ptL : List (Pt (TD [(.int .i64)])) := [⟨0, s0, fun k (x : Int × Int × Int) => ref01_digit.p0 k x.1 x.2.1 x.2.2⟩]
def fns : Nat → List (FuncId × FS) := fun _ => []
def fgs : Nat → List (FuncId × FG) := fun _ => []
def fs (k : Nat) : FS := ⟨[(.int .u8), (.int .i64)], [(.int .i64)], fun (x : Int × Int) => ref01_digit.f k x.1 x.2⟩
theorem ok : FnOk Tryz.prog 80 16 Tryz.f80.results.toList (Tryz.f80.body.getD .skip) 2 := ⟨⟨Tryz.f80, by kernel_rfl, by kernel_rfl, by kernel_rfl, rfl, by kernel_rfl⟩, by kernel_rfl, by decide⟩
theorem c (k : Nat) : Contract Tryz.prog 80 (fs k) :=
  fn_sound (ps := [(.int .u8), (.int .i64)]) (rs := [(.int .i64)]) (pts := ptL) (fns := fns) (fgs := fgs) (fws := fws) (tys := tyTab) (main := fun k (x : Int × Int) => ref01_digit.f k x.1 x.2) ok mix tyOk ⟨⟨rfl, fun _ => rfl, fun k x => by kernel_rfl⟩, trivial⟩ (fun k x => by kernel_rfl) (fun _ => ⟨trivial, trivial, trivial⟩) k
end ref01_digit

namespace ref01_Norm
def s0 : PSig := ⟨0, [], [(0, .val (.list (.int .u32))), (3, .val (.int .i64))]⟩
def s9 : PSig := ⟨0, [], [(0, .val (.list (.int .u32))), (3, .val (.int .i64))]⟩
def s4 : PSig := ⟨0, [(91, (.int .u32), false)], [(0, .val (.list (.int .u32))), (3, .val (.int .i64)), (4, .own 0), (5, .val (.int .i64))]⟩
def fws : Nat → List (FuncId × FW) := fun _ => []
def ptL : List (Pt (TD [(.list (.int .u32))])) := [⟨0, s0, fun k (x : (List Int) × Int) => ref01_Norm.p0 k x.1 x.2⟩, ⟨9, s9, fun k (x : (List Int) × Int) => ref01_Norm.p9 k x.1 x.2⟩, ⟨4, s4, fun k (x : (List Int) × (List Int) × Int × Int) => ref01_Norm.p4 k x.1 x.2.1 x.2.2.1 x.2.2.2⟩]
def fns : Nat → List (FuncId × FS) := fun _ => []
def fgs : Nat → List (FuncId × FG) := fun _ => []
def fs (k : Nat) : FS := ⟨[(.list (.int .u32))], [(.list (.int .u32))], fun (x : (List Int)) => ref01_Norm.f k x⟩
theorem ok : FnOk Tryz.prog 55 35 Tryz.f55.results.toList (Tryz.f55.body.getD .skip) 1 := ⟨⟨Tryz.f55, by kernel_rfl, by kernel_rfl, by kernel_rfl, rfl, by kernel_rfl⟩, by kernel_rfl, by decide⟩
theorem c (k : Nat) : Contract Tryz.prog 55 (fs k) :=
  fn_sound (ps := [(.list (.int .u32))]) (rs := [(.list (.int .u32))]) (pts := ptL) (fns := fns) (fgs := fgs) (fws := fws) (tys := tyTab) (main := fun k (x : (List Int)) => ref01_Norm.f k x) ok mix tyOk ⟨⟨rfl, fun _ => rfl, fun k x => by kernel_rfl⟩, ⟨rfl, fun _ => rfl, fun k x => by kernel_rfl⟩, ⟨rfl, fun _ => rfl, fun k x => by kernel_rfl⟩, trivial⟩ (fun k x => by kernel_rfl) (fun _ => ⟨trivial, trivial, trivial⟩) k
end ref01_Norm

namespace ref01_Mul
def s0 : PSig := ⟨0, [(91, (.int .u32), false)], [(0, .val (.list (.int .u32))), (1, .val (.list (.int .u32))), (5, .own 0), (6, .val (.int .i64))]⟩
def s4 : PSig := ⟨0, [(91, (.int .u32), false)], [(0, .val (.list (.int .u32))), (1, .val (.list (.int .u32))), (5, .own 0), (6, .val (.int .i64)), (7, .val (.int .u64)), (8, .val (.int .i64))]⟩
def fws : Nat → List (FuncId × FW) := fun _ => []
def ptL : List (Pt (TD [(.list (.int .u32))])) := [⟨0, s0, fun k (x : (List Int) × (List Int) × (List Int) × Int) => ref01_Mul.p0 k x.1 x.2.1 x.2.2.1 x.2.2.2⟩, ⟨4, s4, fun k (x : (List Int) × (List Int) × (List Int) × Int × Int × Int) => ref01_Mul.p4 k x.1 x.2.1 x.2.2.1 x.2.2.2.1 x.2.2.2.2.1 x.2.2.2.2.2⟩]
def fns : Nat → List (FuncId × FS) := fun k => [(55, ⟨[(.list (.int .u32))], [(.list (.int .u32))], fun (x : (List Int)) => ref01_Norm.f k x⟩)]
def fgs : Nat → List (FuncId × FG) := fun _ => []
def fs (k : Nat) : FS := ⟨[(.list (.int .u32)), (.list (.int .u32))], [(.list (.int .u32))], fun (x : (List Int) × (List Int)) => ref01_Mul.f k x.1 x.2⟩
theorem ok : FnOk Tryz.prog 58 68 Tryz.f58.results.toList (Tryz.f58.body.getD .skip) 2 := ⟨⟨Tryz.f58, by kernel_rfl, by kernel_rfl, by kernel_rfl, rfl, by kernel_rfl⟩, by kernel_rfl, by decide⟩
theorem c (k : Nat) : Contract Tryz.prog 58 (fs k) :=
  fn_sound (ps := [(.list (.int .u32)), (.list (.int .u32))]) (rs := [(.list (.int .u32))]) (pts := ptL) (fns := fns) (fgs := fgs) (fws := fws) (tys := tyTab) (main := fun k (x : (List Int) × (List Int)) => ref01_Mul.f k x.1 x.2) ok mix tyOk ⟨⟨rfl, fun _ => rfl, fun k x => by kernel_rfl⟩, ⟨rfl, fun _ => rfl, fun k x => by kernel_rfl⟩, trivial⟩ (fun k x => by kernel_rfl) (fun k => ⟨⟨ref01_Norm.c k, trivial⟩, trivial, trivial⟩) k
end ref01_Mul

namespace ref01_at
def fws : Nat → List (FuncId × FW) := fun _ => []
def ptL : List (Pt (TD [(.int .u64)])) := []
def fns : Nat → List (FuncId × FS) := fun _ => []
def fgs : Nat → List (FuncId × FG) := fun _ => []
def fs (k : Nat) : FS := ⟨[(.list (.int .u32)), (.int .i64)], [(.int .u64)], fun (x : (List Int) × Int) => ref01_at.f k x.1 x.2⟩
theorem ok : FnOk Tryz.prog 83 14 Tryz.f83.results.toList (Tryz.f83.body.getD .skip) 2 := ⟨⟨Tryz.f83, by kernel_rfl, by kernel_rfl, by kernel_rfl, rfl, by kernel_rfl⟩, by kernel_rfl, by decide⟩
theorem c (k : Nat) : Contract Tryz.prog 83 (fs k) :=
  fn_sound (ps := [(.list (.int .u32)), (.int .i64)]) (rs := [(.int .u64)]) (pts := ptL) (fns := fns) (fgs := fgs) (fws := fws) (tys := tyTab) (main := fun k (x : (List Int) × Int) => ref01_at.f k x.1 x.2) ok mix tyOk trivial (fun k x => by kernel_rfl) (fun _ => ⟨trivial, trivial, trivial⟩) k
end ref01_at

namespace ref01_Add
def s9 : PSig := ⟨0, [], [(0, .val (.list (.int .u32))), (1, .val (.list (.int .u32))), (5, .val (.int .i64))]⟩
def s0 : PSig := ⟨0, [(91, (.int .u32), false)], [(0, .val (.list (.int .u32))), (1, .val (.list (.int .u32))), (5, .val (.int .i64)), (6, .own 0), (7, .val (.int .u64)), (8, .val (.int .i64))]⟩
def fws : Nat → List (FuncId × FW) := fun _ => []
def ptL : List (Pt (TD [(.list (.int .u32))])) := [⟨9, s9, fun k (x : (List Int) × (List Int) × Int) => ref01_Add.p9 k x.1 x.2.1 x.2.2⟩, ⟨0, s0, fun k (x : (List Int) × (List Int) × (List Int) × Int × Int × Int) => ref01_Add.p0 k x.1 x.2.1 x.2.2.1 x.2.2.2.1 x.2.2.2.2.1 x.2.2.2.2.2⟩]
def fns : Nat → List (FuncId × FS) := fun k => [(83, ⟨[(.list (.int .u32)), (.int .i64)], [(.int .u64)], fun (x : (List Int) × Int) => ref01_at.f k x.1 x.2⟩), (55, ⟨[(.list (.int .u32))], [(.list (.int .u32))], fun (x : (List Int)) => ref01_Norm.f k x⟩)]
def fgs : Nat → List (FuncId × FG) := fun _ => []
def fs (k : Nat) : FS := ⟨[(.list (.int .u32)), (.list (.int .u32))], [(.list (.int .u32))], fun (x : (List Int) × (List Int)) => ref01_Add.f k x.1 x.2⟩
theorem ok : FnOk Tryz.prog 81 44 Tryz.f81.results.toList (Tryz.f81.body.getD .skip) 2 := ⟨⟨Tryz.f81, by kernel_rfl, by kernel_rfl, by kernel_rfl, rfl, by kernel_rfl⟩, by kernel_rfl, by decide⟩
theorem c (k : Nat) : Contract Tryz.prog 81 (fs k) :=
  fn_sound (ps := [(.list (.int .u32)), (.list (.int .u32))]) (rs := [(.list (.int .u32))]) (pts := ptL) (fns := fns) (fgs := fgs) (fws := fws) (tys := tyTab) (main := fun k (x : (List Int) × (List Int)) => ref01_Add.f k x.1 x.2) ok mix tyOk ⟨⟨rfl, fun _ => rfl, fun k x => by kernel_rfl⟩, ⟨rfl, fun _ => rfl, fun k x => by kernel_rfl⟩, trivial⟩ (fun k x => by kernel_rfl) (fun k => ⟨⟨ref01_at.c k, ref01_Norm.c k, trivial⟩, trivial, trivial⟩) k
end ref01_Add

namespace ref01_Parse
def s5 : PSig := ⟨0, [], []⟩
def s9 : PSig := ⟨0, [], []⟩
def s11 : PSig := ⟨0, [], [(0, .val .str), (1, .val (.int .i64))]⟩
def s0 : PSig := ⟨0, [], [(0, .val .str), (1, .val (.int .i64)), (6, .val (.list (.int .u32))), (7, .val (.int .i64))]⟩
def fws : Nat → List (FuncId × FW) := fun _ => []
def ptL : List (Pt (TD [(.list (.int .u32)), (.int .i64)])) := [⟨5, s5, fun k (x : Unit) => ref01_Parse.p5 k x⟩, ⟨9, s9, fun k (x : Unit) => ref01_Parse.p9 k x⟩, ⟨11, s11, fun k (x : ByteArray × Int) => ref01_Parse.p11 k x.1 x.2⟩, ⟨0, s0, fun k (x : ByteArray × Int × (List Int) × Int) => ref01_Parse.p0 k x.1 x.2.1 x.2.2.1 x.2.2.2⟩]
def fns : Nat → List (FuncId × FS) := fun k => [(80, ⟨[(.int .u8), (.int .i64)], [(.int .i64)], fun (x : Int × Int) => ref01_digit.f k x.1 x.2⟩), (58, ⟨[(.list (.int .u32)), (.list (.int .u32))], [(.list (.int .u32))], fun (x : (List Int) × (List Int)) => ref01_Mul.f k x.1 x.2⟩), (81, ⟨[(.list (.int .u32)), (.list (.int .u32))], [(.list (.int .u32))], fun (x : (List Int) × (List Int)) => ref01_Add.f k x.1 x.2⟩)]
def fgs : Nat → List (FuncId × FG) := fun _ => []
def fs (k : Nat) : FS := ⟨[.str, (.int .i64)], [(.list (.int .u32)), (.int .i64)], fun (x : ByteArray × Int) => ref01_Parse.f k x.1 x.2⟩
theorem ok : FnOk Tryz.prog 56 52 Tryz.f56.results.toList (Tryz.f56.body.getD .skip) 2 := ⟨⟨Tryz.f56, by kernel_rfl, by kernel_rfl, by kernel_rfl, rfl, by kernel_rfl⟩, by kernel_rfl, by decide⟩
theorem c (k : Nat) : Contract Tryz.prog 56 (fs k) :=
  fn_sound (ps := [.str, (.int .i64)]) (rs := [(.list (.int .u32)), (.int .i64)]) (pts := ptL) (fns := fns) (fgs := fgs) (fws := fws) (tys := tyTab) (main := fun k (x : ByteArray × Int) => ref01_Parse.f k x.1 x.2) ok mix tyOk ⟨⟨rfl, fun _ => rfl, fun k x => by kernel_rfl⟩, ⟨rfl, fun _ => rfl, fun k x => by kernel_rfl⟩, ⟨rfl, fun _ => rfl, fun k x => by kernel_rfl⟩, ⟨rfl, fun _ => rfl, fun k x => by kernel_rfl⟩, trivial⟩ (fun k x => by kernel_rfl) (fun k => ⟨⟨ref01_digit.c k, ref01_Mul.c k, ref01_Add.c k, trivial⟩, trivial, trivial⟩) k
end ref01_Parse

namespace ref04_natural
def s0 : PSig := ⟨0, [], [(0, .val .str), (3, .val (.int .i64))]⟩
def s9 : PSig := ⟨0, [], [(0, .val .str), (3, .val (.int .i64))]⟩
def fws : Nat → List (FuncId × FW) := fun _ => []
def ptL : List (Pt (TD [(.list (.int .u32))])) := [⟨0, s0, fun k (x : ByteArray × Int) => ref04_natural.p0 k x.1 x.2⟩, ⟨9, s9, fun k (x : ByteArray × Int) => ref04_natural.p9 k x.1 x.2⟩]
def fns : Nat → List (FuncId × FS) := fun k => [(56, ⟨[.str, (.int .i64)], [(.list (.int .u32)), (.int .i64)], fun (x : ByteArray × Int) => ref01_Parse.f k x.1 x.2⟩)]
def fgs : Nat → List (FuncId × FG) := fun _ => []
def fs (k : Nat) : FS := ⟨[.str], [(.list (.int .u32))], fun (x : ByteArray) => ref04_natural.f k x⟩
theorem ok : FnOk Tryz.prog 26 27 Tryz.f26.results.toList (Tryz.f26.body.getD .skip) 1 := ⟨⟨Tryz.f26, by kernel_rfl, by kernel_rfl, by kernel_rfl, rfl, by kernel_rfl⟩, by kernel_rfl, by decide⟩
theorem c (k : Nat) : Contract Tryz.prog 26 (fs k) :=
  fn_sound (ps := [.str]) (rs := [(.list (.int .u32))]) (pts := ptL) (fns := fns) (fgs := fgs) (fws := fws) (tys := tyTab) (main := fun k (x : ByteArray) => ref04_natural.f k x) ok mix tyOk ⟨⟨rfl, fun _ => rfl, fun k x => by kernel_rfl⟩, ⟨rfl, fun _ => rfl, fun k x => by kernel_rfl⟩, trivial⟩ (fun k x => by kernel_rfl) (fun k => ⟨⟨ref01_Parse.c k, trivial⟩, trivial, trivial⟩) k
end ref04_natural

namespace ref01_Small
def s0 : PSig := ⟨0, [], [(0, .val (.list (.int .u32))), (4, .val (.int .u64)), (5, .val (.int .i64))]⟩
def fws : Nat → List (FuncId × FW) := fun _ => []
def ptL : List (Pt (TD [(.int .u64), .bool])) := [⟨0, s0, fun k (x : (List Int) × Int × Int) => ref01_Small.p0 k x.1 x.2.1 x.2.2⟩]
def fns : Nat → List (FuncId × FS) := fun k => [(55, ⟨[(.list (.int .u32))], [(.list (.int .u32))], fun (x : (List Int)) => ref01_Norm.f k x⟩)]
def fgs : Nat → List (FuncId × FG) := fun _ => []
def fs (k : Nat) : FS := ⟨[(.list (.int .u32))], [(.int .u64), .bool], fun (x : (List Int)) => ref01_Small.f k x⟩
theorem ok : FnOk Tryz.prog 25 27 Tryz.f25.results.toList (Tryz.f25.body.getD .skip) 1 := ⟨⟨Tryz.f25, by kernel_rfl, by kernel_rfl, by kernel_rfl, rfl, by kernel_rfl⟩, by kernel_rfl, by decide⟩
theorem c (k : Nat) : Contract Tryz.prog 25 (fs k) :=
  fn_sound (ps := [(.list (.int .u32))]) (rs := [(.int .u64), .bool]) (pts := ptL) (fns := fns) (fgs := fgs) (fws := fws) (tys := tyTab) (main := fun k (x : (List Int)) => ref01_Small.f k x) ok mix tyOk ⟨⟨rfl, fun _ => rfl, fun k x => by kernel_rfl⟩, trivial⟩ (fun k x => by kernel_rfl) (fun k => ⟨⟨ref01_Norm.c k, trivial⟩, trivial, trivial⟩) k
end ref01_Small

namespace ref01_Pow
def s5 : PSig := ⟨0, [], []⟩
def s0 : PSig := ⟨0, [], [(0, .val (.list (.int .u32))), (1, .val (.int .i64)), (6, .val (.list (.int .u32))), (7, .val (.int .i64))]⟩
def s13 : PSig := ⟨0, [], [(0, .val (.list (.int .u32))), (1, .val (.int .i64)), (6, .val (.list (.int .u32))), (7, .val (.int .i64))]⟩
def fws : Nat → List (FuncId × FW) := fun _ => []
def ptL : List (Pt (TD [(.list (.int .u32)), (.int .i64)])) := [⟨5, s5, fun k (x : Unit) => ref01_Pow.p5 k x⟩, ⟨0, s0, fun k (x : (List Int) × Int × (List Int) × Int) => ref01_Pow.p0 k x.1 x.2.1 x.2.2.1 x.2.2.2⟩, ⟨13, s13, fun k (x : (List Int) × Int × (List Int) × Int) => ref01_Pow.p13 k x.1 x.2.1 x.2.2.1 x.2.2.2⟩]
def fns : Nat → List (FuncId × FS) := fun k => [(58, ⟨[(.list (.int .u32)), (.list (.int .u32))], [(.list (.int .u32))], fun (x : (List Int) × (List Int)) => ref01_Mul.f k x.1 x.2⟩), (55, ⟨[(.list (.int .u32))], [(.list (.int .u32))], fun (x : (List Int)) => ref01_Norm.f k x⟩)]
def fgs : Nat → List (FuncId × FG) := fun _ => []
def fs (k : Nat) : FS := ⟨[(.list (.int .u32)), (.int .i64)], [(.list (.int .u32)), (.int .i64)], fun (x : (List Int) × Int) => ref01_Pow.f k x.1 x.2⟩
theorem ok : FnOk Tryz.prog 97 33 Tryz.f97.results.toList (Tryz.f97.body.getD .skip) 2 := ⟨⟨Tryz.f97, by kernel_rfl, by kernel_rfl, by kernel_rfl, rfl, by kernel_rfl⟩, by kernel_rfl, by decide⟩
theorem c (k : Nat) : Contract Tryz.prog 97 (fs k) :=
  fn_sound (ps := [(.list (.int .u32)), (.int .i64)]) (rs := [(.list (.int .u32)), (.int .i64)]) (pts := ptL) (fns := fns) (fgs := fgs) (fws := fws) (tys := tyTab) (main := fun k (x : (List Int) × Int) => ref01_Pow.f k x.1 x.2) ok mix tyOk ⟨⟨rfl, fun _ => rfl, fun k x => by kernel_rfl⟩, ⟨rfl, fun _ => rfl, fun k x => by kernel_rfl⟩, ⟨rfl, fun _ => rfl, fun k x => by kernel_rfl⟩, trivial⟩ (fun k x => by kernel_rfl) (fun k => ⟨⟨ref01_Mul.c k, ref01_Norm.c k, trivial⟩, trivial, trivial⟩) k
end ref01_Pow

namespace ref04_ten
def s0 : PSig := ⟨0, [], [(0, .val (.int .i64)), (3, .val (.list (.int .u32)))]⟩
def s13 : PSig := ⟨0, [], [(0, .val (.int .i64)), (3, .val (.list (.int .u32))), (4, .val (.int .i64))]⟩
def fws : Nat → List (FuncId × FW) := fun _ => []
def ptL : List (Pt (TD [(.list (.int .u32))])) := [⟨0, s0, fun k (x : Int × (List Int)) => ref04_ten.p0 k x.1 x.2⟩, ⟨13, s13, fun k (x : Int × (List Int) × Int) => ref04_ten.p13 k x.1 x.2.1 x.2.2⟩]
def fns : Nat → List (FuncId × FS) := fun k => [(97, ⟨[(.list (.int .u32)), (.int .i64)], [(.list (.int .u32)), (.int .i64)], fun (x : (List Int) × Int) => ref01_Pow.f k x.1 x.2⟩), (58, ⟨[(.list (.int .u32)), (.list (.int .u32))], [(.list (.int .u32))], fun (x : (List Int) × (List Int)) => ref01_Mul.f k x.1 x.2⟩)]
def fgs : Nat → List (FuncId × FG) := fun _ => []
def fs (k : Nat) : FS := ⟨[(.int .i64)], [(.list (.int .u32))], fun (x : Int) => ref04_ten.f k x⟩
theorem ok : FnOk Tryz.prog 82 26 Tryz.f82.results.toList (Tryz.f82.body.getD .skip) 1 := ⟨⟨Tryz.f82, by kernel_rfl, by kernel_rfl, by kernel_rfl, rfl, by kernel_rfl⟩, by kernel_rfl, by decide⟩
theorem c (k : Nat) : Contract Tryz.prog 82 (fs k) :=
  fn_sound (ps := [(.int .i64)]) (rs := [(.list (.int .u32))]) (pts := ptL) (fns := fns) (fgs := fgs) (fws := fws) (tys := tyTab) (main := fun k (x : Int) => ref04_ten.f k x) ok mix tyOk ⟨⟨rfl, fun _ => rfl, fun k x => by kernel_rfl⟩, ⟨rfl, fun _ => rfl, fun k x => by kernel_rfl⟩, trivial⟩ (fun k x => by kernel_rfl) (fun k => ⟨⟨ref01_Pow.c k, ref01_Mul.c k, trivial⟩, trivial, trivial⟩) k
end ref04_ten

namespace ref04_tens
def fws : Nat → List (FuncId × FW) := fun _ => []
def ptL : List (Pt (TD [(.st (.pair (.st (.pair .bool (.list (.int .u32)))) (.list (.int .u32))))])) := []
def fns : Nat → List (FuncId × FS) := fun k => [(82, ⟨[(.int .i64)], [(.list (.int .u32))], fun (x : Int) => ref04_ten.f k x⟩)]
def fgs : Nat → List (FuncId × FG) := fun _ => []
def fs (k : Nat) : FS := ⟨[(.int .i64)], [(.st (.pair (.st (.pair .bool (.list (.int .u32)))) (.list (.int .u32))))], fun (x : Int) => ref04_tens.f k x⟩
theorem ok : FnOk Tryz.prog 57 16 Tryz.f57.results.toList (Tryz.f57.body.getD .skip) 1 := ⟨⟨Tryz.f57, by kernel_rfl, by kernel_rfl, by kernel_rfl, rfl, by kernel_rfl⟩, by kernel_rfl, by decide⟩
theorem c (k : Nat) : Contract Tryz.prog 57 (fs k) :=
  fn_sound (ps := [(.int .i64)]) (rs := [(.st (.pair (.st (.pair .bool (.list (.int .u32)))) (.list (.int .u32))))]) (pts := ptL) (fns := fns) (fgs := fgs) (fws := fws) (tys := tyTab) (main := fun k (x : Int) => ref04_tens.f k x) ok mix tyOk trivial (fun k x => by kernel_rfl) (fun k => ⟨⟨ref04_ten.c k, trivial⟩, trivial, trivial⟩) k
end ref04_tens

namespace ref04_timesTen
def fws : Nat → List (FuncId × FW) := fun _ => []
def ptL : List (Pt (TD [(.st (.pair (.st (.pair .bool (.list (.int .u32)))) (.list (.int .u32))))])) := []
def fns : Nat → List (FuncId × FS) := fun k => [(57, ⟨[(.int .i64)], [(.st (.pair (.st (.pair .bool (.list (.int .u32)))) (.list (.int .u32))))], fun (x : Int) => ref04_tens.f k x⟩), (58, ⟨[(.list (.int .u32)), (.list (.int .u32))], [(.list (.int .u32))], fun (x : (List Int) × (List Int)) => ref01_Mul.f k x.1 x.2⟩)]
def fgs : Nat → List (FuncId × FG) := fun _ => []
def fs (k : Nat) : FS := ⟨[(.list (.int .u32)), (.int .i64)], [(.st (.pair (.st (.pair .bool (.list (.int .u32)))) (.list (.int .u32))))], fun (x : (List Int) × Int) => ref04_timesTen.f k x.1 x.2⟩
theorem ok : FnOk Tryz.prog 27 17 Tryz.f27.results.toList (Tryz.f27.body.getD .skip) 2 := ⟨⟨Tryz.f27, by kernel_rfl, by kernel_rfl, by kernel_rfl, rfl, by kernel_rfl⟩, by kernel_rfl, by decide⟩
theorem c (k : Nat) : Contract Tryz.prog 27 (fs k) :=
  fn_sound (ps := [(.list (.int .u32)), (.int .i64)]) (rs := [(.st (.pair (.st (.pair .bool (.list (.int .u32)))) (.list (.int .u32))))]) (pts := ptL) (fns := fns) (fgs := fgs) (fws := fws) (tys := tyTab) (main := fun k (x : (List Int) × Int) => ref04_timesTen.f k x.1 x.2) ok mix tyOk trivial (fun k x => by kernel_rfl) (fun k => ⟨⟨ref04_tens.c k, ref01_Mul.c k, trivial⟩, trivial, trivial⟩) k
end ref04_timesTen

namespace ref04_decimal
def s9 : PSig := ⟨0, [(35, (.st (.pair (.st (.pair .bool (.list (.int .u32)))) (.list (.int .u32)))), true)], [(0, .val .str), (2, .ptr 0 []), (5, .val (.int .i64))]⟩
def s33 : PSig := ⟨0, [(35, (.st (.pair (.st (.pair .bool (.list (.int .u32)))) (.list (.int .u32)))), true)], [(0, .val .str), (2, .ptr 0 []), (5, .val (.int .i64)), (6, .val (.int .i64)), (7, .val .str), (8, .val (.int .i64))]⟩
def s35 : PSig := ⟨0, [(35, (.st (.pair (.st (.pair .bool (.list (.int .u32)))) (.list (.int .u32)))), true)], [(0, .val .str), (2, .ptr 0 []), (5, .val (.int .i64)), (6, .val (.int .i64)), (7, .val .str), (8, .val (.int .i64))]⟩
def s63 : PSig := ⟨0, [(35, (.st (.pair (.st (.pair .bool (.list (.int .u32)))) (.list (.int .u32)))), true)], [(0, .val .str), (2, .ptr 0 []), (5, .val (.int .i64)), (6, .val (.int .i64)), (7, .val .str), (8, .val (.int .i64))]⟩
def s39 : PSig := ⟨0, [(35, (.st (.pair (.st (.pair .bool (.list (.int .u32)))) (.list (.int .u32)))), true)], [(0, .val .str), (2, .ptr 0 []), (5, .val (.int .i64)), (6, .val (.int .i64)), (7, .val .str), (8, .val (.int .i64)), (10, .val .bool)]⟩
def s41 : PSig := ⟨0, [(35, (.st (.pair (.st (.pair .bool (.list (.int .u32)))) (.list (.int .u32)))), true)], [(0, .val .str), (2, .ptr 0 []), (5, .val (.int .i64)), (6, .val (.int .i64)), (7, .val .str), (8, .val (.int .i64)), (10, .val .bool)]⟩
def s43 : PSig := ⟨0, [(35, (.st (.pair (.st (.pair .bool (.list (.int .u32)))) (.list (.int .u32)))), true)], [(0, .val .str), (2, .ptr 0 []), (5, .val (.int .i64)), (6, .val (.int .i64)), (7, .val .str), (8, .val (.int .i64)), (10, .val .bool)]⟩
def s53 : PSig := ⟨0, [(35, (.st (.pair (.st (.pair .bool (.list (.int .u32)))) (.list (.int .u32)))), true)], [(2, .ptr 0 [])]⟩
def s61 : PSig := ⟨0, [(35, (.st (.pair (.st (.pair .bool (.list (.int .u32)))) (.list (.int .u32)))), true)], [(0, .val .str), (2, .ptr 0 []), (5, .val (.int .i64)), (7, .val .str), (8, .val (.int .i64)), (11, .val (.int .i64))]⟩
def fws : Nat → List (FuncId × FW) := fun _ => []
def ptL : List (Pt (TD [(.st (.pair (.st (.pair .bool (.list (.int .u32)))) (.list (.int .u32)))), .bool, .bool])) := [⟨9, s9, fun k (x : ((Bool × (List Int)) × (List Int)) × ByteArray × Int) => ref04_decimal.p9 k x.1 x.2.1 x.2.2⟩, ⟨33, s33, fun k (x : ((Bool × (List Int)) × (List Int)) × ByteArray × Int × Int × ByteArray × Int) => ref04_decimal.p33 k x.1 x.2.1 x.2.2.1 x.2.2.2.1 x.2.2.2.2.1 x.2.2.2.2.2⟩, ⟨35, s35, fun k (x : ((Bool × (List Int)) × (List Int)) × ByteArray × Int × Int × ByteArray × Int) => ref04_decimal.p35 k x.1 x.2.1 x.2.2.1 x.2.2.2.1 x.2.2.2.2.1 x.2.2.2.2.2⟩, ⟨63, s63, fun k (x : ((Bool × (List Int)) × (List Int)) × ByteArray × Int × Int × ByteArray × Int) => ref04_decimal.p63 k x.1 x.2.1 x.2.2.1 x.2.2.2.1 x.2.2.2.2.1 x.2.2.2.2.2⟩, ⟨39, s39, fun k (x : ((Bool × (List Int)) × (List Int)) × ByteArray × Int × Int × ByteArray × Int × Bool) => ref04_decimal.p39 k x.1 x.2.1 x.2.2.1 x.2.2.2.1 x.2.2.2.2.1 x.2.2.2.2.2.1 x.2.2.2.2.2.2⟩, ⟨41, s41, fun k (x : ((Bool × (List Int)) × (List Int)) × ByteArray × Int × Int × ByteArray × Int × Bool) => ref04_decimal.p41 k x.1 x.2.1 x.2.2.1 x.2.2.2.1 x.2.2.2.2.1 x.2.2.2.2.2.1 x.2.2.2.2.2.2⟩, ⟨43, s43, fun k (x : ((Bool × (List Int)) × (List Int)) × ByteArray × Int × Int × ByteArray × Int × Bool) => ref04_decimal.p43 k x.1 x.2.1 x.2.2.1 x.2.2.2.1 x.2.2.2.2.1 x.2.2.2.2.2.1 x.2.2.2.2.2.2⟩, ⟨53, s53, fun k (x : ((Bool × (List Int)) × (List Int))) => ref04_decimal.p53 k x⟩, ⟨61, s61, fun k (x : ((Bool × (List Int)) × (List Int)) × ByteArray × Int × ByteArray × Int × Int) => ref04_decimal.p61 k x.1 x.2.1 x.2.2.1 x.2.2.2.1 x.2.2.2.2.1 x.2.2.2.2.2⟩]
def fns : Nat → List (FuncId × FS) := fun k => [(24, ⟨[.str, (.int .i64)], [(.int .i64)], fun (x : ByteArray × Int) => ref04_digitsAt.f k x.1 x.2⟩), (26, ⟨[.str], [(.list (.int .u32))], fun (x : ByteArray) => ref04_natural.f k x⟩), (25, ⟨[(.list (.int .u32))], [(.int .u64), .bool], fun (x : (List Int)) => ref01_Small.f k x⟩), (27, ⟨[(.list (.int .u32)), (.int .i64)], [(.st (.pair (.st (.pair .bool (.list (.int .u32)))) (.list (.int .u32))))], fun (x : (List Int) × Int) => ref04_timesTen.f k x.1 x.2⟩)]
def fgs : Nat → List (FuncId × FG) := fun _ => []
def fs (k : Nat) : FS := ⟨[.str], [(.st (.pair (.st (.pair .bool (.list (.int .u32)))) (.list (.int .u32)))), .bool, .bool], fun (x : ByteArray) => ref04_decimal.f k x⟩
theorem ok : FnOk Tryz.prog 10 155 Tryz.f10.results.toList (Tryz.f10.body.getD .skip) 1 := ⟨⟨Tryz.f10, by kernel_rfl, by kernel_rfl, by kernel_rfl, rfl, by kernel_rfl⟩, by kernel_rfl, by decide⟩
theorem c (k : Nat) : Contract Tryz.prog 10 (fs k) :=
  fn_sound (ps := [.str]) (rs := [(.st (.pair (.st (.pair .bool (.list (.int .u32)))) (.list (.int .u32)))), .bool, .bool]) (pts := ptL) (fns := fns) (fgs := fgs) (fws := fws) (tys := tyTab) (main := fun k (x : ByteArray) => ref04_decimal.f k x) ok mix tyOk ⟨⟨rfl, fun _ => rfl, fun k x => by kernel_rfl⟩, ⟨rfl, fun _ => rfl, fun k x => by kernel_rfl⟩, ⟨rfl, fun _ => rfl, fun k x => by kernel_rfl⟩, ⟨rfl, fun _ => rfl, fun k x => by kernel_rfl⟩, ⟨rfl, fun _ => rfl, fun k x => by kernel_rfl⟩, ⟨rfl, fun _ => rfl, fun k x => by kernel_rfl⟩, ⟨rfl, fun _ => rfl, fun k x => by kernel_rfl⟩, ⟨rfl, fun _ => rfl, fun k x => by kernel_rfl⟩, ⟨rfl, fun _ => rfl, fun k x => by kernel_rfl⟩, trivial⟩ (fun k x => by kernel_rfl) (fun k => ⟨⟨ref04_digitsAt.c k, ref04_natural.c k, ref01_Small.c k, ref04_timesTen.c k, trivial⟩, trivial, trivial⟩) k
end ref04_decimal

namespace ref01_Bit
def fws : Nat → List (FuncId × FW) := fun _ => []
def ptL : List (Pt (TD [.bool])) := []
def fns : Nat → List (FuncId × FS) := fun _ => []
def fgs : Nat → List (FuncId × FG) := fun _ => []
def fs (k : Nat) : FS := ⟨[(.list (.int .u32)), (.int .i64)], [.bool], fun (x : (List Int) × Int) => ref01_Bit.f k x.1 x.2⟩
theorem ok : FnOk Tryz.prog 59 27 Tryz.f59.results.toList (Tryz.f59.body.getD .skip) 2 := ⟨⟨Tryz.f59, by kernel_rfl, by kernel_rfl, by kernel_rfl, rfl, by kernel_rfl⟩, by kernel_rfl, by decide⟩
theorem c (k : Nat) : Contract Tryz.prog 59 (fs k) :=
  fn_sound (ps := [(.list (.int .u32)), (.int .i64)]) (rs := [.bool]) (pts := ptL) (fns := fns) (fgs := fgs) (fws := fws) (tys := tyTab) (main := fun k (x : (List Int) × Int) => ref01_Bit.f k x.1 x.2) ok mix tyOk trivial (fun k x => by kernel_rfl) (fun _ => ⟨trivial, trivial, trivial⟩) k
end ref01_Bit

namespace ref01_Bits
def s0 : PSig := ⟨0, [], [(0, .val (.list (.int .u32))), (3, .val (.int .i64))]⟩
def fws : Nat → List (FuncId × FW) := fun _ => []
def ptL : List (Pt (TD [(.int .i64)])) := [⟨0, s0, fun k (x : (List Int) × Int) => ref01_Bits.p0 k x.1 x.2⟩]
def fns : Nat → List (FuncId × FS) := fun k => [(59, ⟨[(.list (.int .u32)), (.int .i64)], [.bool], fun (x : (List Int) × Int) => ref01_Bit.f k x.1 x.2⟩)]
def fgs : Nat → List (FuncId × FG) := fun _ => []
def fs (k : Nat) : FS := ⟨[(.list (.int .u32))], [(.int .i64)], fun (x : (List Int)) => ref01_Bits.f k x⟩
theorem ok : FnOk Tryz.prog 29 17 Tryz.f29.results.toList (Tryz.f29.body.getD .skip) 1 := ⟨⟨Tryz.f29, by kernel_rfl, by kernel_rfl, by kernel_rfl, rfl, by kernel_rfl⟩, by kernel_rfl, by decide⟩
theorem c (k : Nat) : Contract Tryz.prog 29 (fs k) :=
  fn_sound (ps := [(.list (.int .u32))]) (rs := [(.int .i64)]) (pts := ptL) (fns := fns) (fgs := fgs) (fws := fws) (tys := tyTab) (main := fun k (x : (List Int)) => ref01_Bits.f k x) ok mix tyOk ⟨⟨rfl, fun _ => rfl, fun k x => by kernel_rfl⟩, trivial⟩ (fun k x => by kernel_rfl) (fun k => ⟨⟨ref01_Bit.c k, trivial⟩, trivial, trivial⟩) k
end ref01_Bits

namespace ref04_amount
def s9 : PSig := ⟨0, [(35, (.st (.pair (.st (.pair .bool (.list (.int .u32)))) (.list (.int .u32)))), true), (35, (.st (.pair (.st (.pair .bool (.list (.int .u32)))) (.list (.int .u32)))), true)], [(2, .ptr 0 []), (4, .ptr 1 [])]⟩
def fws : Nat → List (FuncId × FW) := fun _ => []
def ptL : List (Pt (TD [(.st (.pair (.st (.pair .bool (.list (.int .u32)))) (.list (.int .u32)))), (.int .u64)])) := [⟨9, s9, fun k (x : ((Bool × (List Int)) × (List Int)) × ((Bool × (List Int)) × (List Int))) => ref04_amount.p9 k x.1 x.2⟩]
def fns : Nat → List (FuncId × FS) := fun k => [(29, ⟨[(.list (.int .u32))], [(.int .i64)], fun (x : (List Int)) => ref01_Bits.f k x⟩)]
def fgs : Nat → List (FuncId × FG) := fun _ => []
def fs (k : Nat) : FS := ⟨[(.st (.pair (.st (.pair .bool (.list (.int .u32)))) (.list (.int .u32))))], [(.st (.pair (.st (.pair .bool (.list (.int .u32)))) (.list (.int .u32)))), (.int .u64)], fun (x : ((Bool × (List Int)) × (List Int))) => ref04_amount.f k x⟩
theorem ok : FnOk Tryz.prog 28 30 Tryz.f28.results.toList (Tryz.f28.body.getD .skip) 1 := ⟨⟨Tryz.f28, by kernel_rfl, by kernel_rfl, by kernel_rfl, rfl, by kernel_rfl⟩, by kernel_rfl, by decide⟩
theorem c (k : Nat) : Contract Tryz.prog 28 (fs k) :=
  fn_sound (ps := [(.st (.pair (.st (.pair .bool (.list (.int .u32)))) (.list (.int .u32))))]) (rs := [(.st (.pair (.st (.pair .bool (.list (.int .u32)))) (.list (.int .u32)))), (.int .u64)]) (pts := ptL) (fns := fns) (fgs := fgs) (fws := fws) (tys := tyTab) (main := fun k (x : ((Bool × (List Int)) × (List Int))) => ref04_amount.f k x) ok mix tyOk ⟨⟨rfl, fun _ => rfl, fun k x => by kernel_rfl⟩, trivial⟩ (fun k x => by kernel_rfl) (fun k => ⟨⟨ref01_Bits.c k, trivial⟩, trivial, trivial⟩) k
end ref04_amount

namespace ref01_Of
def fws : Nat → List (FuncId × FW) := fun _ => []
def ptL : List (Pt (TD [(.list (.int .u32))])) := []
def fns : Nat → List (FuncId × FS) := fun k => [(55, ⟨[(.list (.int .u32))], [(.list (.int .u32))], fun (x : (List Int)) => ref01_Norm.f k x⟩)]
def fgs : Nat → List (FuncId × FG) := fun _ => []
def fs (k : Nat) : FS := ⟨[(.int .u64)], [(.list (.int .u32))], fun (x : Int) => ref01_Of.f k x⟩
theorem ok : FnOk Tryz.prog 31 10 Tryz.f31.results.toList (Tryz.f31.body.getD .skip) 1 := ⟨⟨Tryz.f31, by kernel_rfl, by kernel_rfl, by kernel_rfl, rfl, by kernel_rfl⟩, by kernel_rfl, by decide⟩
theorem c (k : Nat) : Contract Tryz.prog 31 (fs k) :=
  fn_sound (ps := [(.int .u64)]) (rs := [(.list (.int .u32))]) (pts := ptL) (fns := fns) (fgs := fgs) (fws := fws) (tys := tyTab) (main := fun k (x : Int) => ref01_Of.f k x) ok mix tyOk trivial (fun k x => by kernel_rfl) (fun k => ⟨⟨ref01_Norm.c k, trivial⟩, trivial, trivial⟩) k
end ref01_Of

namespace ref01_Shift
def s5 : PSig := ⟨0, [], []⟩
def s17 : PSig := ⟨0, [], [(0, .val (.list (.int .u32))), (1, .val (.int .i64)), (6, .val (.int .i64))]⟩
def s29 : PSig := ⟨0, [(91, (.int .u32), false)], [(0, .val (.list (.int .u32))), (6, .val (.int .i64)), (7, .own 0), (8, .val (.int .i64)), (9, .val (.int .i64))]⟩
def s0 : PSig := ⟨0, [(91, (.int .u32), false)], [(0, .val (.list (.int .u32))), (6, .val (.int .i64)), (7, .own 0), (8, .val (.int .i64)), (9, .val (.int .i64)), (10, .val (.int .i64))]⟩
def s41 : PSig := ⟨0, [(91, (.int .u32), false)], [(0, .val (.list (.int .u32))), (6, .val (.int .i64)), (7, .own 0), (8, .val (.int .i64)), (9, .val (.int .i64)), (10, .val (.int .i64)), (11, .val (.int .u64))]⟩
def s33 : PSig := ⟨0, [(91, (.int .u32), false)], [(0, .val (.list (.int .u32))), (6, .val (.int .i64)), (7, .own 0), (8, .val (.int .i64)), (9, .val (.int .i64)), (10, .val (.int .i64))]⟩
def fws : Nat → List (FuncId × FW) := fun _ => []
def ptL : List (Pt (TD [(.list (.int .u32)), (.int .i64)])) := [⟨5, s5, fun k (x : Unit) => ref01_Shift.p5 k x⟩, ⟨17, s17, fun k (x : (List Int) × Int × Int) => ref01_Shift.p17 k x.1 x.2.1 x.2.2⟩, ⟨29, s29, fun k (x : (List Int) × (List Int) × Int × Int × Int) => ref01_Shift.p29 k x.1 x.2.1 x.2.2.1 x.2.2.2.1 x.2.2.2.2⟩, ⟨0, s0, fun k (x : (List Int) × (List Int) × Int × Int × Int × Int) => ref01_Shift.p0 k x.1 x.2.1 x.2.2.1 x.2.2.2.1 x.2.2.2.2.1 x.2.2.2.2.2⟩, ⟨41, s41, fun k (x : (List Int) × (List Int) × Int × Int × Int × Int × Int) => ref01_Shift.p41 k x.1 x.2.1 x.2.2.1 x.2.2.2.1 x.2.2.2.2.1 x.2.2.2.2.2.1 x.2.2.2.2.2.2⟩, ⟨33, s33, fun k (x : (List Int) × (List Int) × Int × Int × Int × Int) => ref01_Shift.p33 k x.1 x.2.1 x.2.2.1 x.2.2.2.1 x.2.2.2.2.1 x.2.2.2.2.2⟩]
def fns : Nat → List (FuncId × FS) := fun k => [(55, ⟨[(.list (.int .u32))], [(.list (.int .u32))], fun (x : (List Int)) => ref01_Norm.f k x⟩)]
def fgs : Nat → List (FuncId × FG) := fun _ => []
def fs (k : Nat) : FS := ⟨[(.list (.int .u32)), (.int .i64)], [(.list (.int .u32)), (.int .i64)], fun (x : (List Int) × Int) => ref01_Shift.f k x.1 x.2⟩
theorem ok : FnOk Tryz.prog 60 106 Tryz.f60.results.toList (Tryz.f60.body.getD .skip) 2 := ⟨⟨Tryz.f60, by kernel_rfl, by kernel_rfl, by kernel_rfl, rfl, by kernel_rfl⟩, by kernel_rfl, by decide⟩
theorem c (k : Nat) : Contract Tryz.prog 60 (fs k) :=
  fn_sound (ps := [(.list (.int .u32)), (.int .i64)]) (rs := [(.list (.int .u32)), (.int .i64)]) (pts := ptL) (fns := fns) (fgs := fgs) (fws := fws) (tys := tyTab) (main := fun k (x : (List Int) × Int) => ref01_Shift.f k x.1 x.2) ok mix tyOk ⟨⟨rfl, fun _ => rfl, fun k x => by kernel_rfl⟩, ⟨rfl, fun _ => rfl, fun k x => by kernel_rfl⟩, ⟨rfl, fun _ => rfl, fun k x => by kernel_rfl⟩, ⟨rfl, fun _ => rfl, fun k x => by kernel_rfl⟩, ⟨rfl, fun _ => rfl, fun k x => by kernel_rfl⟩, ⟨rfl, fun _ => rfl, fun k x => by kernel_rfl⟩, trivial⟩ (fun k x => by kernel_rfl) (fun k => ⟨⟨ref01_Norm.c k, trivial⟩, trivial, trivial⟩) k
end ref01_Shift

namespace ref01_Cmp
def s9 : PSig := ⟨0, [], [(0, .val (.list (.int .u32))), (1, .val (.list (.int .u32))), (5, .val (.int .i64))]⟩
def s0 : PSig := ⟨0, [], [(0, .val (.list (.int .u32))), (1, .val (.list (.int .u32))), (6, .val (.int .i64))]⟩
def fws : Nat → List (FuncId × FW) := fun _ => []
def ptL : List (Pt (TD [(.int .i64)])) := [⟨9, s9, fun k (x : (List Int) × (List Int) × Int) => ref01_Cmp.p9 k x.1 x.2.1 x.2.2⟩, ⟨0, s0, fun k (x : (List Int) × (List Int) × Int) => ref01_Cmp.p0 k x.1 x.2.1 x.2.2⟩]
def fns : Nat → List (FuncId × FS) := fun k => [(83, ⟨[(.list (.int .u32)), (.int .i64)], [(.int .u64)], fun (x : (List Int) × Int) => ref01_at.f k x.1 x.2⟩)]
def fgs : Nat → List (FuncId × FG) := fun _ => []
def fs (k : Nat) : FS := ⟨[(.list (.int .u32)), (.list (.int .u32))], [(.int .i64)], fun (x : (List Int) × (List Int)) => ref01_Cmp.f k x.1 x.2⟩
theorem ok : FnOk Tryz.prog 61 35 Tryz.f61.results.toList (Tryz.f61.body.getD .skip) 2 := ⟨⟨Tryz.f61, by kernel_rfl, by kernel_rfl, by kernel_rfl, rfl, by kernel_rfl⟩, by kernel_rfl, by decide⟩
theorem c (k : Nat) : Contract Tryz.prog 61 (fs k) :=
  fn_sound (ps := [(.list (.int .u32)), (.list (.int .u32))]) (rs := [(.int .i64)]) (pts := ptL) (fns := fns) (fgs := fgs) (fws := fws) (tys := tyTab) (main := fun k (x : (List Int) × (List Int)) => ref01_Cmp.f k x.1 x.2) ok mix tyOk ⟨⟨rfl, fun _ => rfl, fun k x => by kernel_rfl⟩, ⟨rfl, fun _ => rfl, fun k x => by kernel_rfl⟩, trivial⟩ (fun k x => by kernel_rfl) (fun k => ⟨⟨ref01_at.c k, trivial⟩, trivial, trivial⟩) k
end ref01_Cmp

namespace ref04_against
def s13 : PSig := ⟨0, [], [(7, .val (.list (.int .u32))), (8, .val (.list (.int .u32)))]⟩
def fws : Nat → List (FuncId × FW) := fun _ => []
def ptL : List (Pt (TD [(.int .i64)])) := [⟨13, s13, fun k (x : (List Int) × (List Int)) => ref04_against.p13 k x.1 x.2⟩]
def fns : Nat → List (FuncId × FS) := fun k => [(58, ⟨[(.list (.int .u32)), (.list (.int .u32))], [(.list (.int .u32))], fun (x : (List Int) × (List Int)) => ref01_Mul.f k x.1 x.2⟩), (60, ⟨[(.list (.int .u32)), (.int .i64)], [(.list (.int .u32)), (.int .i64)], fun (x : (List Int) × Int) => ref01_Shift.f k x.1 x.2⟩), (61, ⟨[(.list (.int .u32)), (.list (.int .u32))], [(.int .i64)], fun (x : (List Int) × (List Int)) => ref01_Cmp.f k x.1 x.2⟩)]
def fgs : Nat → List (FuncId × FG) := fun _ => []
def fs (k : Nat) : FS := ⟨[(.st (.pair (.st (.pair .bool (.list (.int .u32)))) (.list (.int .u32)))), (.list (.int .u32)), (.int .i64)], [(.int .i64)], fun (x : ((Bool × (List Int)) × (List Int)) × (List Int) × Int) => ref04_against.f k x.1 x.2.1 x.2.2⟩
theorem ok : FnOk Tryz.prog 30 34 Tryz.f30.results.toList (Tryz.f30.body.getD .skip) 3 := ⟨⟨Tryz.f30, by kernel_rfl, by kernel_rfl, by kernel_rfl, rfl, by kernel_rfl⟩, by kernel_rfl, by decide⟩
theorem c (k : Nat) : Contract Tryz.prog 30 (fs k) :=
  fn_sound (ps := [(.st (.pair (.st (.pair .bool (.list (.int .u32)))) (.list (.int .u32)))), (.list (.int .u32)), (.int .i64)]) (rs := [(.int .i64)]) (pts := ptL) (fns := fns) (fgs := fgs) (fws := fws) (tys := tyTab) (main := fun k (x : ((Bool × (List Int)) × (List Int)) × (List Int) × Int) => ref04_against.f k x.1 x.2.1 x.2.2) ok mix tyOk ⟨⟨rfl, fun _ => rfl, fun k x => by kernel_rfl⟩, trivial⟩ (fun k x => by kernel_rfl) (fun k => ⟨⟨ref01_Mul.c k, ref01_Shift.c k, ref01_Cmp.c k, trivial⟩, trivial, trivial⟩) k
end ref04_against

namespace ref01_twice
def s11 : PSig := ⟨0, [(91, (.int .u32), false)], [(0, .val (.list (.int .u32))), (5, .own 0), (6, .val (.int .u32))]⟩
def s0 : PSig := ⟨0, [(91, (.int .u32), false)], [(0, .val (.list (.int .u32))), (5, .own 0), (6, .val (.int .u32)), (7, .val (.int .i64))]⟩
def fws : Nat → List (FuncId × FW) := fun _ => []
def ptL : List (Pt (TD [(.list (.int .u32))])) := [⟨11, s11, fun k (x : (List Int) × (List Int) × Int) => ref01_twice.p11 k x.1 x.2.1 x.2.2⟩, ⟨0, s0, fun k (x : (List Int) × (List Int) × Int × Int) => ref01_twice.p0 k x.1 x.2.1 x.2.2.1 x.2.2.2⟩]
def fns : Nat → List (FuncId × FS) := fun k => [(55, ⟨[(.list (.int .u32))], [(.list (.int .u32))], fun (x : (List Int)) => ref01_Norm.f k x⟩)]
def fgs : Nat → List (FuncId × FG) := fun _ => []
def fs (k : Nat) : FS := ⟨[(.list (.int .u32)), .bool], [(.list (.int .u32))], fun (x : (List Int) × Bool) => ref01_twice.f k x.1 x.2⟩
theorem ok : FnOk Tryz.prog 98 41 Tryz.f98.results.toList (Tryz.f98.body.getD .skip) 2 := ⟨⟨Tryz.f98, by kernel_rfl, by kernel_rfl, by kernel_rfl, rfl, by kernel_rfl⟩, by kernel_rfl, by decide⟩
theorem c (k : Nat) : Contract Tryz.prog 98 (fs k) :=
  fn_sound (ps := [(.list (.int .u32)), .bool]) (rs := [(.list (.int .u32))]) (pts := ptL) (fns := fns) (fgs := fgs) (fws := fws) (tys := tyTab) (main := fun k (x : (List Int) × Bool) => ref01_twice.f k x.1 x.2) ok mix tyOk ⟨⟨rfl, fun _ => rfl, fun k x => by kernel_rfl⟩, ⟨rfl, fun _ => rfl, fun k x => by kernel_rfl⟩, trivial⟩ (fun k x => by kernel_rfl) (fun k => ⟨⟨ref01_Norm.c k, trivial⟩, trivial, trivial⟩) k
end ref01_twice

namespace ref01_Sub
def s0 : PSig := ⟨0, [(91, (.int .u32), false)], [(0, .val (.list (.int .u32))), (1, .val (.list (.int .u32))), (6, .own 0), (7, .val (.int .u64)), (8, .val (.int .i64))]⟩
def fws : Nat → List (FuncId × FW) := fun _ => []
def ptL : List (Pt (TD [(.list (.int .u32)), (.int .i64)])) := [⟨0, s0, fun k (x : (List Int) × (List Int) × (List Int) × Int × Int) => ref01_Sub.p0 k x.1 x.2.1 x.2.2.1 x.2.2.2.1 x.2.2.2.2⟩]
def fns : Nat → List (FuncId × FS) := fun k => [(61, ⟨[(.list (.int .u32)), (.list (.int .u32))], [(.int .i64)], fun (x : (List Int) × (List Int)) => ref01_Cmp.f k x.1 x.2⟩), (83, ⟨[(.list (.int .u32)), (.int .i64)], [(.int .u64)], fun (x : (List Int) × Int) => ref01_at.f k x.1 x.2⟩), (55, ⟨[(.list (.int .u32))], [(.list (.int .u32))], fun (x : (List Int)) => ref01_Norm.f k x⟩)]
def fgs : Nat → List (FuncId × FG) := fun _ => []
def fs (k : Nat) : FS := ⟨[(.list (.int .u32)), (.list (.int .u32))], [(.list (.int .u32)), (.int .i64)], fun (x : (List Int) × (List Int)) => ref01_Sub.f k x.1 x.2⟩
theorem ok : FnOk Tryz.prog 99 41 Tryz.f99.results.toList (Tryz.f99.body.getD .skip) 2 := ⟨⟨Tryz.f99, by kernel_rfl, by kernel_rfl, by kernel_rfl, rfl, by kernel_rfl⟩, by kernel_rfl, by decide⟩
theorem c (k : Nat) : Contract Tryz.prog 99 (fs k) :=
  fn_sound (ps := [(.list (.int .u32)), (.list (.int .u32))]) (rs := [(.list (.int .u32)), (.int .i64)]) (pts := ptL) (fns := fns) (fgs := fgs) (fws := fws) (tys := tyTab) (main := fun k (x : (List Int) × (List Int)) => ref01_Sub.f k x.1 x.2) ok mix tyOk ⟨⟨rfl, fun _ => rfl, fun k x => by kernel_rfl⟩, trivial⟩ (fun k x => by kernel_rfl) (fun k => ⟨⟨ref01_Cmp.c k, ref01_at.c k, ref01_Norm.c k, trivial⟩, trivial, trivial⟩) k
end ref01_Sub

namespace ref01_Div
def s19 : PSig := ⟨0, [(91, (.int .u32), false)], [(0, .val (.list (.int .u32))), (1, .val (.list (.int .u32))), (7, .own 0), (8, .val (.int .i64))]⟩
def s0 : PSig := ⟨0, [(91, (.int .u32), false)], [(0, .val (.list (.int .u32))), (1, .val (.list (.int .u32))), (7, .own 0), (9, .val (.list (.int .u32))), (10, .val (.int .i64))]⟩
def s25 : PSig := ⟨0, [(91, (.int .u32), false)], [(0, .val (.list (.int .u32))), (1, .val (.list (.int .u32))), (7, .own 0), (9, .val (.list (.int .u32))), (10, .val (.int .i64))]⟩
def fws : Nat → List (FuncId × FW) := fun _ => []
def ptL : List (Pt (TD [(.list (.int .u32)), (.list (.int .u32)), (.int .i64)])) := [⟨19, s19, fun k (x : (List Int) × (List Int) × (List Int) × Int) => ref01_Div.p19 k x.1 x.2.1 x.2.2.1 x.2.2.2⟩, ⟨0, s0, fun k (x : (List Int) × (List Int) × (List Int) × (List Int) × Int) => ref01_Div.p0 k x.1 x.2.1 x.2.2.1 x.2.2.2.1 x.2.2.2.2⟩, ⟨25, s25, fun k (x : (List Int) × (List Int) × (List Int) × (List Int) × Int) => ref01_Div.p25 k x.1 x.2.1 x.2.2.1 x.2.2.2.1 x.2.2.2.2⟩]
def fns : Nat → List (FuncId × FS) := fun k => [(55, ⟨[(.list (.int .u32))], [(.list (.int .u32))], fun (x : (List Int)) => ref01_Norm.f k x⟩), (59, ⟨[(.list (.int .u32)), (.int .i64)], [.bool], fun (x : (List Int) × Int) => ref01_Bit.f k x.1 x.2⟩), (98, ⟨[(.list (.int .u32)), .bool], [(.list (.int .u32))], fun (x : (List Int) × Bool) => ref01_twice.f k x.1 x.2⟩), (61, ⟨[(.list (.int .u32)), (.list (.int .u32))], [(.int .i64)], fun (x : (List Int) × (List Int)) => ref01_Cmp.f k x.1 x.2⟩), (99, ⟨[(.list (.int .u32)), (.list (.int .u32))], [(.list (.int .u32)), (.int .i64)], fun (x : (List Int) × (List Int)) => ref01_Sub.f k x.1 x.2⟩)]
def fgs : Nat → List (FuncId × FG) := fun _ => []
def fs (k : Nat) : FS := ⟨[(.list (.int .u32)), (.list (.int .u32))], [(.list (.int .u32)), (.list (.int .u32)), (.int .i64)], fun (x : (List Int) × (List Int)) => ref01_Div.f k x.1 x.2⟩
theorem ok : FnOk Tryz.prog 84 76 Tryz.f84.results.toList (Tryz.f84.body.getD .skip) 2 := ⟨⟨Tryz.f84, by kernel_rfl, by kernel_rfl, by kernel_rfl, rfl, by kernel_rfl⟩, by kernel_rfl, by decide⟩
theorem c (k : Nat) : Contract Tryz.prog 84 (fs k) :=
  fn_sound (ps := [(.list (.int .u32)), (.list (.int .u32))]) (rs := [(.list (.int .u32)), (.list (.int .u32)), (.int .i64)]) (pts := ptL) (fns := fns) (fgs := fgs) (fws := fws) (tys := tyTab) (main := fun k (x : (List Int) × (List Int)) => ref01_Div.f k x.1 x.2) ok mix tyOk ⟨⟨rfl, fun _ => rfl, fun k x => by kernel_rfl⟩, ⟨rfl, fun _ => rfl, fun k x => by kernel_rfl⟩, ⟨rfl, fun _ => rfl, fun k x => by kernel_rfl⟩, trivial⟩ (fun k x => by kernel_rfl) (fun k => ⟨⟨ref01_Norm.c k, ref01_Bit.c k, ref01_twice.c k, ref01_Cmp.c k, ref01_Sub.c k, trivial⟩, trivial, trivial⟩) k
end ref01_Div

namespace ref04_quotient
def s13 : PSig := ⟨0, [], [(6, .val (.list (.int .u32))), (7, .val (.list (.int .u32)))]⟩
def fws : Nat → List (FuncId × FW) := fun _ => []
def ptL : List (Pt (TD [(.list (.int .u32)), .bool])) := [⟨13, s13, fun k (x : (List Int) × (List Int)) => ref04_quotient.p13 k x.1 x.2⟩]
def fns : Nat → List (FuncId × FS) := fun k => [(60, ⟨[(.list (.int .u32)), (.int .i64)], [(.list (.int .u32)), (.int .i64)], fun (x : (List Int) × Int) => ref01_Shift.f k x.1 x.2⟩), (84, ⟨[(.list (.int .u32)), (.list (.int .u32))], [(.list (.int .u32)), (.list (.int .u32)), (.int .i64)], fun (x : (List Int) × (List Int)) => ref01_Div.f k x.1 x.2⟩), (29, ⟨[(.list (.int .u32))], [(.int .i64)], fun (x : (List Int)) => ref01_Bits.f k x⟩)]
def fgs : Nat → List (FuncId × FG) := fun _ => []
def fs (k : Nat) : FS := ⟨[(.st (.pair (.st (.pair .bool (.list (.int .u32)))) (.list (.int .u32)))), (.int .i64)], [(.list (.int .u32)), .bool], fun (x : ((Bool × (List Int)) × (List Int)) × Int) => ref04_quotient.f k x.1 x.2⟩
theorem ok : FnOk Tryz.prog 62 42 Tryz.f62.results.toList (Tryz.f62.body.getD .skip) 2 := ⟨⟨Tryz.f62, by kernel_rfl, by kernel_rfl, by kernel_rfl, rfl, by kernel_rfl⟩, by kernel_rfl, by decide⟩
theorem c (k : Nat) : Contract Tryz.prog 62 (fs k) :=
  fn_sound (ps := [(.st (.pair (.st (.pair .bool (.list (.int .u32)))) (.list (.int .u32)))), (.int .i64)]) (rs := [(.list (.int .u32)), .bool]) (pts := ptL) (fns := fns) (fgs := fgs) (fws := fws) (tys := tyTab) (main := fun k (x : ((Bool × (List Int)) × (List Int)) × Int) => ref04_quotient.f k x.1 x.2) ok mix tyOk ⟨⟨rfl, fun _ => rfl, fun k x => by kernel_rfl⟩, trivial⟩ (fun k x => by kernel_rfl) (fun k => ⟨⟨ref01_Shift.c k, ref01_Div.c k, ref01_Bits.c k, trivial⟩, trivial, trivial⟩) k
end ref04_quotient

namespace ref04_below
def s5 : PSig := ⟨0, [], []⟩
def s23 : PSig := ⟨0, [(35, (.st (.pair (.st (.pair .bool (.list (.int .u32)))) (.list (.int .u32)))), true)], [(1, .ptr 0 []), (5, .val (.int .i64))]⟩
def s0 : PSig := ⟨0, [(35, (.st (.pair (.st (.pair .bool (.list (.int .u32)))) (.list (.int .u32)))), true)], [(1, .ptr 0 []), (5, .val (.int .i64)), (6, .val (.list (.int .u32))), (7, .val .bool)]⟩
def fws : Nat → List (FuncId × FW) := fun _ => []
def ptL : List (Pt (TD [(.int .u64), .bool])) := [⟨5, s5, fun k (x : Unit) => ref04_below.p5 k x⟩, ⟨23, s23, fun k (x : ((Bool × (List Int)) × (List Int)) × Int) => ref04_below.p23 k x.1 x.2⟩, ⟨0, s0, fun k (x : ((Bool × (List Int)) × (List Int)) × Int × (List Int) × Bool) => ref04_below.p0 k x.1 x.2.1 x.2.2.1 x.2.2.2⟩]
def fns : Nat → List (FuncId × FS) := fun k => [(29, ⟨[(.list (.int .u32))], [(.int .i64)], fun (x : (List Int)) => ref01_Bits.f k x⟩), (62, ⟨[(.st (.pair (.st (.pair .bool (.list (.int .u32)))) (.list (.int .u32)))), (.int .i64)], [(.list (.int .u32)), .bool], fun (x : ((Bool × (List Int)) × (List Int)) × Int) => ref04_quotient.f k x.1 x.2⟩), (25, ⟨[(.list (.int .u32))], [(.int .u64), .bool], fun (x : (List Int)) => ref01_Small.f k x⟩)]
def fgs : Nat → List (FuncId × FG) := fun _ => []
def fs (k : Nat) : FS := ⟨[(.st (.pair (.st (.pair .bool (.list (.int .u32)))) (.list (.int .u32))))], [(.int .u64), .bool], fun (x : ((Bool × (List Int)) × (List Int))) => ref04_below.f k x⟩
theorem ok : FnOk Tryz.prog 32 73 Tryz.f32.results.toList (Tryz.f32.body.getD .skip) 1 := ⟨⟨Tryz.f32, by kernel_rfl, by kernel_rfl, by kernel_rfl, rfl, by kernel_rfl⟩, by kernel_rfl, by decide⟩
theorem c (k : Nat) : Contract Tryz.prog 32 (fs k) :=
  fn_sound (ps := [(.st (.pair (.st (.pair .bool (.list (.int .u32)))) (.list (.int .u32))))]) (rs := [(.int .u64), .bool]) (pts := ptL) (fns := fns) (fgs := fgs) (fws := fws) (tys := tyTab) (main := fun k (x : ((Bool × (List Int)) × (List Int))) => ref04_below.f k x) ok mix tyOk ⟨⟨rfl, fun _ => rfl, fun k x => by kernel_rfl⟩, ⟨rfl, fun _ => rfl, fun k x => by kernel_rfl⟩, ⟨rfl, fun _ => rfl, fun k x => by kernel_rfl⟩, trivial⟩ (fun k x => by kernel_rfl) (fun k => ⟨⟨ref01_Bits.c k, ref04_quotient.c k, ref01_Small.c k, trivial⟩, trivial, trivial⟩) k
end ref04_below

namespace ref04_parts
def fws : Nat → List (FuncId × FW) := fun _ => []
def ptL : List (Pt (TD [(.int .u64), (.int .i64)])) := []
def fns : Nat → List (FuncId × FS) := fun _ => []
def fgs : Nat → List (FuncId × FG) := fun _ => []
def fs (k : Nat) : FS := ⟨[(.int .u64)], [(.int .u64), (.int .i64)], fun (x : Int) => ref04_parts.f k x⟩
theorem ok : FnOk Tryz.prog 33 18 Tryz.f33.results.toList (Tryz.f33.body.getD .skip) 1 := ⟨⟨Tryz.f33, by kernel_rfl, by kernel_rfl, by kernel_rfl, rfl, by kernel_rfl⟩, by kernel_rfl, by decide⟩
theorem c (k : Nat) : Contract Tryz.prog 33 (fs k) :=
  fn_sound (ps := [(.int .u64)]) (rs := [(.int .u64), (.int .i64)]) (pts := ptL) (fns := fns) (fgs := fgs) (fws := fws) (tys := tyTab) (main := fun k (x : Int) => ref04_parts.f k x) ok mix tyOk trivial (fun k x => by kernel_rfl) (fun _ => ⟨trivial, trivial, trivial⟩) k
end ref04_parts

namespace ref04_NearestBits
def s17 : PSig := ⟨0, [], [(4, .val (.int .u64)), (5, .val (.int .u64))]⟩
def s27 : PSig := ⟨0, [], [(4, .val (.int .u64)), (5, .val (.int .u64))]⟩
def s29 : PSig := ⟨0, [], [(4, .val (.int .u64)), (5, .val (.int .u64))]⟩
def fws : Nat → List (FuncId × FW) := fun _ => []
def ptL : List (Pt (TD [(.int .u64)])) := [⟨17, s17, fun k (x : Int × Int) => ref04_NearestBits.p17 k x.1 x.2⟩, ⟨27, s27, fun k (x : Int × Int) => ref04_NearestBits.p27 k x.1 x.2⟩, ⟨29, s29, fun k (x : Int × Int) => ref04_NearestBits.p29 k x.1 x.2⟩]
def fns : Nat → List (FuncId × FS) := fun k => [(28, ⟨[(.st (.pair (.st (.pair .bool (.list (.int .u32)))) (.list (.int .u32))))], [(.st (.pair (.st (.pair .bool (.list (.int .u32)))) (.list (.int .u32)))), (.int .u64)], fun (x : ((Bool × (List Int)) × (List Int))) => ref04_amount.f k x⟩), (29, ⟨[(.list (.int .u32))], [(.int .i64)], fun (x : (List Int)) => ref01_Bits.f k x⟩), (31, ⟨[(.int .u64)], [(.list (.int .u32))], fun (x : Int) => ref01_Of.f k x⟩), (30, ⟨[(.st (.pair (.st (.pair .bool (.list (.int .u32)))) (.list (.int .u32)))), (.list (.int .u32)), (.int .i64)], [(.int .i64)], fun (x : ((Bool × (List Int)) × (List Int)) × (List Int) × Int) => ref04_against.f k x.1 x.2.1 x.2.2⟩), (32, ⟨[(.st (.pair (.st (.pair .bool (.list (.int .u32)))) (.list (.int .u32))))], [(.int .u64), .bool], fun (x : ((Bool × (List Int)) × (List Int))) => ref04_below.f k x⟩), (33, ⟨[(.int .u64)], [(.int .u64), (.int .i64)], fun (x : Int) => ref04_parts.f k x⟩)]
def fgs : Nat → List (FuncId × FG) := fun _ => []
def fs (k : Nat) : FS := ⟨[(.st (.pair (.st (.pair .bool (.list (.int .u32)))) (.list (.int .u32))))], [(.int .u64)], fun (x : ((Bool × (List Int)) × (List Int))) => ref04_NearestBits.f k x⟩
theorem ok : FnOk Tryz.prog 11 80 Tryz.f11.results.toList (Tryz.f11.body.getD .skip) 1 := ⟨⟨Tryz.f11, by kernel_rfl, by kernel_rfl, by kernel_rfl, rfl, by kernel_rfl⟩, by kernel_rfl, by decide⟩
theorem c (k : Nat) : Contract Tryz.prog 11 (fs k) :=
  fn_sound (ps := [(.st (.pair (.st (.pair .bool (.list (.int .u32)))) (.list (.int .u32))))]) (rs := [(.int .u64)]) (pts := ptL) (fns := fns) (fgs := fgs) (fws := fws) (tys := tyTab) (main := fun k (x : ((Bool × (List Int)) × (List Int))) => ref04_NearestBits.f k x) ok mix tyOk ⟨⟨rfl, fun _ => rfl, fun k x => by kernel_rfl⟩, ⟨rfl, fun _ => rfl, fun k x => by kernel_rfl⟩, ⟨rfl, fun _ => rfl, fun k x => by kernel_rfl⟩, trivial⟩ (fun k x => by kernel_rfl) (fun k => ⟨⟨ref04_amount.c k, ref01_Bits.c k, ref01_Of.c k, ref04_against.c k, ref04_below.c k, ref04_parts.c k, trivial⟩, trivial, trivial⟩) k
end ref04_NearestBits

namespace ref04_Read
def s19 : PSig := ⟨0, [], [(7, .val (.int .u64))]⟩
def fws : Nat → List (FuncId × FW) := fun _ => []
def ptL : List (Pt (TD [.flt, (.int .i64)])) := [⟨19, s19, fun k (x : Int) => ref04_Read.p19 k x⟩]
def fns : Nat → List (FuncId × FS) := fun k => [(10, ⟨[.str], [(.st (.pair (.st (.pair .bool (.list (.int .u32)))) (.list (.int .u32)))), .bool, .bool], fun (x : ByteArray) => ref04_decimal.f k x⟩), (11, ⟨[(.st (.pair (.st (.pair .bool (.list (.int .u32)))) (.list (.int .u32))))], [(.int .u64)], fun (x : ((Bool × (List Int)) × (List Int))) => ref04_NearestBits.f k x⟩), (12, ⟨[(.int .u64)], [.flt], fun (x : Int) => math_Float64frombits.f k x⟩)]
def fgs : Nat → List (FuncId × FG) := fun _ => []
def fs (k : Nat) : FS := ⟨[.str], [.flt, (.int .i64)], fun (x : ByteArray) => ref04_Read.f k x⟩
theorem ok : FnOk Tryz.prog 5 26 Tryz.f5.results.toList (Tryz.f5.body.getD .skip) 1 := ⟨⟨Tryz.f5, by kernel_rfl, by kernel_rfl, by kernel_rfl, rfl, by kernel_rfl⟩, by kernel_rfl, by decide⟩
theorem c (k : Nat) : Contract Tryz.prog 5 (fs k) :=
  fn_sound (ps := [.str]) (rs := [.flt, (.int .i64)]) (pts := ptL) (fns := fns) (fgs := fgs) (fws := fws) (tys := tyTab) (main := fun k (x : ByteArray) => ref04_Read.f k x) ok mix tyOk ⟨⟨rfl, fun _ => rfl, fun k x => by kernel_rfl⟩, trivial⟩ (fun k x => by kernel_rfl) (fun k => ⟨⟨ref04_decimal.c k, ref04_NearestBits.c k, math_Float64frombits.c k, trivial⟩, trivial, trivial⟩) k
end ref04_Read

namespace law04_same
def fws : Nat → List (FuncId × FW) := fun _ => []
def ptL : List (Pt (TD [.bool])) := []
def fns : Nat → List (FuncId × FS) := fun k => [(13, ⟨[.flt], [(.int .u64)], fun (x : Nat) => math_Float64bits.f k x⟩)]
def fgs : Nat → List (FuncId × FG) := fun _ => []
def fs (k : Nat) : FS := ⟨[.flt, .flt], [.bool], fun (x : Nat × Nat) => law04_same.f k x.1 x.2⟩
theorem ok : FnOk Tryz.prog 6 10 Tryz.f6.results.toList (Tryz.f6.body.getD .skip) 2 := ⟨⟨Tryz.f6, by kernel_rfl, by kernel_rfl, by kernel_rfl, rfl, by kernel_rfl⟩, by kernel_rfl, by decide⟩
theorem c (k : Nat) : Contract Tryz.prog 6 (fs k) :=
  fn_sound (ps := [.flt, .flt]) (rs := [.bool]) (pts := ptL) (fns := fns) (fgs := fgs) (fws := fws) (tys := tyTab) (main := fun k (x : Nat × Nat) => law04_same.f k x.1 x.2) ok mix tyOk trivial (fun k x => by kernel_rfl) (fun k => ⟨⟨math_Float64bits.c k, trivial⟩, trivial, trivial⟩) k
end law04_same

namespace law04_ApproxReads
def fws : Nat → List (FuncId × FW) := fun _ => []
def ptL : List (Pt (TD [.bool])) := []
def fns : Nat → List (FuncId × FS) := fun k => [(4, ⟨[.str], [.flt, (.int .i64)], fun (x : ByteArray) => approx_Read.f k x⟩), (5, ⟨[.str], [.flt, (.int .i64)], fun (x : ByteArray) => ref04_Read.f k x⟩), (6, ⟨[.flt, .flt], [.bool], fun (x : Nat × Nat) => law04_same.f k x.1 x.2⟩)]
def fgs : Nat → List (FuncId × FG) := fun _ => []
def fs (k : Nat) : FS := ⟨[.str], [.bool], fun (x : ByteArray) => law04_ApproxReads.f k x⟩
theorem ok : FnOk Tryz.prog 3 25 Tryz.f3.results.toList (Tryz.f3.body.getD .skip) 1 := ⟨⟨Tryz.f3, by kernel_rfl, by kernel_rfl, by kernel_rfl, rfl, by kernel_rfl⟩, by kernel_rfl, by decide⟩
theorem c (k : Nat) : Contract Tryz.prog 3 (fs k) :=
  fn_sound (ps := [.str]) (rs := [.bool]) (pts := ptL) (fns := fns) (fgs := fgs) (fws := fws) (tys := tyTab) (main := fun k (x : ByteArray) => law04_ApproxReads.f k x) ok mix tyOk trivial (fun k x => by kernel_rfl) (fun k => ⟨⟨approx_Read.c k, ref04_Read.c k, law04_same.c k, trivial⟩, trivial, trivial⟩) k
end law04_ApproxReads
end Go.Proofs.YtbdacjnamihkkaaGreatDoor
