/- Contracts, printed by fgen.py. -/
import Derived.Test.YtfalcbkhleobdaaGreatDoorPlm
import Derived.Test.YtfalcbkhleobdaaGreatDoorProg
namespace Go.Proofs.YtfalcbkhleobdaaGreatDoor
open Go.FK
theorem mix : Tryz.prog.follows .mixedOrders = true ∧ ArrsOk Tryz.prog := ⟨by kernel_rfl, arrsB_ok (by kernel_rfl)⟩
def tyTab : List (TypeId × TI) := [(2, ⟨(.int .i64), 0, 0⟩), (3, ⟨(.int .i64), 0, 0⟩), (4, ⟨.bool, 0, 0⟩), (5, ⟨(.int .u8), 0, 0⟩), (9, ⟨.str, 0, 0⟩), (21, ⟨(.int .i32), 0, 0⟩), (23, ⟨(.list (.int .u32)), 55, 4⟩), (25, ⟨(.st (.pair .bool (.list (.int .u32)))), 0, 0⟩), (27, ⟨(.st (.pair (.st (.pair .bool (.list (.int .u32)))) (.list (.int .u32)))), 0, 0⟩), (29, ⟨(.st (.pair (.st (.pair (.st (.pair .bool (.list (.int .u32)))) (.list (.int .u32)))) (.st (.pair (.st (.pair .bool (.list (.int .u32)))) (.list (.int .u32)))))), 0, 0⟩), (34, ⟨(.int .i64), 0, 0⟩), (55, ⟨(.int .u32), 0, 0⟩), (86, ⟨(.int .u64), 0, 0⟩), (87, ⟨(.int .u64), 0, 0⟩), (140, ⟨(.list (.int .u8)), 5, 1⟩), (148, ⟨(.list (.int .i64)), 3, 8⟩)]
theorem tyOk : tysB Tryz.prog tyTab = true := by kernel_rfl

namespace stringslite_HasSuffix
def fws : Nat → List (FuncId × FW) := fun _ => []
def ptL : List (Pt (TD [.bool])) := []
def fns : Nat → List (FuncId × FS) := fun _ => []
def fgs : Nat → List (FuncId × FG) := fun _ => []
def fs (k : Nat) : FS := ⟨[.str, .str], [.bool], fun (x : ByteArray × ByteArray) => stringslite_HasSuffix.f k x.1 x.2⟩
theorem ok : FnOk Tryz.prog 135 21 Tryz.f135.results.toList (Tryz.f135.body.getD .skip) 2 := ⟨⟨Tryz.f135, by kernel_rfl, by kernel_rfl, by kernel_rfl, rfl, by kernel_rfl⟩, by kernel_rfl, by decide⟩
theorem c (k : Nat) : Contract Tryz.prog 135 (fs k) :=
  fn_sound (ps := [.str, .str]) (rs := [.bool]) (pts := ptL) (fns := fns) (fgs := fgs) (fws := fws) (tys := tyTab) (main := fun k (x : ByteArray × ByteArray) => stringslite_HasSuffix.f k x.1 x.2) ok mix tyOk trivial (fun k x => by kernel_rfl) (fun _ => ⟨trivial, trivial, trivial⟩) k
end stringslite_HasSuffix

namespace stringslite_CutSuffix
def fws : Nat → List (FuncId × FW) := fun _ => []
def ptL : List (Pt (TD [.str, .bool])) := []
def fns : Nat → List (FuncId × FS) := fun k => [(135, ⟨[.str, .str], [.bool], fun (x : ByteArray × ByteArray) => stringslite_HasSuffix.f k x.1 x.2⟩)]
def fgs : Nat → List (FuncId × FG) := fun _ => []
def fs (k : Nat) : FS := ⟨[.str, .str], [.str, .bool], fun (x : ByteArray × ByteArray) => stringslite_CutSuffix.f k x.1 x.2⟩
theorem ok : FnOk Tryz.prog 98 18 Tryz.f98.results.toList (Tryz.f98.body.getD .skip) 2 := ⟨⟨Tryz.f98, by kernel_rfl, by kernel_rfl, by kernel_rfl, rfl, by kernel_rfl⟩, by kernel_rfl, by decide⟩
theorem c (k : Nat) : Contract Tryz.prog 98 (fs k) :=
  fn_sound (ps := [.str, .str]) (rs := [.str, .bool]) (pts := ptL) (fns := fns) (fgs := fgs) (fws := fws) (tys := tyTab) (main := fun k (x : ByteArray × ByteArray) => stringslite_CutSuffix.f k x.1 x.2) ok mix tyOk trivial (fun k x => by kernel_rfl) (fun k => ⟨⟨stringslite_HasSuffix.c k, trivial⟩, trivial, trivial⟩) k
end stringslite_CutSuffix

namespace strings_CutSuffix
def fws : Nat → List (FuncId × FW) := fun _ => []
def ptL : List (Pt (TD [.str, .bool])) := []
def fns : Nat → List (FuncId × FS) := fun k => [(98, ⟨[.str, .str], [.str, .bool], fun (x : ByteArray × ByteArray) => stringslite_CutSuffix.f k x.1 x.2⟩)]
def fgs : Nat → List (FuncId × FG) := fun _ => []
def fs (k : Nat) : FS := ⟨[.str, .str], [.str, .bool], fun (x : ByteArray × ByteArray) => strings_CutSuffix.f k x.1 x.2⟩
theorem ok : FnOk Tryz.prog 62 11 Tryz.f62.results.toList (Tryz.f62.body.getD .skip) 2 := ⟨⟨Tryz.f62, by kernel_rfl, by kernel_rfl, by kernel_rfl, rfl, by kernel_rfl⟩, by kernel_rfl, by decide⟩
theorem c (k : Nat) : Contract Tryz.prog 62 (fs k) :=
  fn_sound (ps := [.str, .str]) (rs := [.str, .bool]) (pts := ptL) (fns := fns) (fgs := fgs) (fws := fws) (tys := tyTab) (main := fun k (x : ByteArray × ByteArray) => strings_CutSuffix.f k x.1 x.2) ok mix tyOk trivial (fun k x => by kernel_rfl) (fun k => ⟨⟨stringslite_CutSuffix.c k, trivial⟩, trivial, trivial⟩) k
end strings_CutSuffix

namespace bytealg_IndexByteString
theorem c (k : Nat) : Contract Tryz.prog 176 ⟨[.str, (.int .u8)], [(.int .i64)], fun (x : ByteArray × Int) => bytealg_IndexByteString.f k x.1 x.2⟩ :=
  indexByteString_contract (fn := Tryz.f176) (by kernel_rfl) (by kernel_rfl) (by kernel_rfl) (by kernel_rfl) (by kernel_rfl) (fun _ _ => rfl)
end bytealg_IndexByteString

namespace stringslite_IndexByte
def fws : Nat → List (FuncId × FW) := fun _ => []
def ptL : List (Pt (TD [(.int .i64)])) := []
def fns : Nat → List (FuncId × FS) := fun k => [(176, ⟨[.str, (.int .u8)], [(.int .i64)], fun (x : ByteArray × Int) => bytealg_IndexByteString.f k x.1 x.2⟩)]
def fgs : Nat → List (FuncId × FG) := fun _ => []
def fs (k : Nat) : FS := ⟨[.str, (.int .u8)], [(.int .i64)], fun (x : ByteArray × Int) => stringslite_IndexByte.f k x.1 x.2⟩
theorem ok : FnOk Tryz.prog 168 8 Tryz.f168.results.toList (Tryz.f168.body.getD .skip) 2 := ⟨⟨Tryz.f168, by kernel_rfl, by kernel_rfl, by kernel_rfl, rfl, by kernel_rfl⟩, by kernel_rfl, by decide⟩
theorem c (k : Nat) : Contract Tryz.prog 168 (fs k) :=
  fn_sound (ps := [.str, (.int .u8)]) (rs := [(.int .i64)]) (pts := ptL) (fns := fns) (fgs := fgs) (fws := fws) (tys := tyTab) (main := fun k (x : ByteArray × Int) => stringslite_IndexByte.f k x.1 x.2) ok mix tyOk trivial (fun k x => by kernel_rfl) (fun k => ⟨⟨bytealg_IndexByteString.c k, trivial⟩, trivial, trivial⟩) k
end stringslite_IndexByte

namespace strings_IndexByte
def fws : Nat → List (FuncId × FW) := fun _ => []
def ptL : List (Pt (TD [(.int .i64)])) := []
def fns : Nat → List (FuncId × FS) := fun k => [(168, ⟨[.str, (.int .u8)], [(.int .i64)], fun (x : ByteArray × Int) => stringslite_IndexByte.f k x.1 x.2⟩)]
def fgs : Nat → List (FuncId × FG) := fun _ => []
def fs (k : Nat) : FS := ⟨[.str, (.int .u8)], [(.int .i64)], fun (x : ByteArray × Int) => strings_IndexByte.f k x.1 x.2⟩
theorem ok : FnOk Tryz.prog 136 8 Tryz.f136.results.toList (Tryz.f136.body.getD .skip) 2 := ⟨⟨Tryz.f136, by kernel_rfl, by kernel_rfl, by kernel_rfl, rfl, by kernel_rfl⟩, by kernel_rfl, by decide⟩
theorem c (k : Nat) : Contract Tryz.prog 136 (fs k) :=
  fn_sound (ps := [.str, (.int .u8)]) (rs := [(.int .i64)]) (pts := ptL) (fns := fns) (fgs := fgs) (fws := fws) (tys := tyTab) (main := fun k (x : ByteArray × Int) => strings_IndexByte.f k x.1 x.2) ok mix tyOk trivial (fun k x => by kernel_rfl) (fun k => ⟨⟨stringslite_IndexByte.c k, trivial⟩, trivial, trivial⟩) k
end strings_IndexByte

namespace utf8_ValidRune
def s7 : PSig := ⟨0, [], [(0, .val (.int .i32))]⟩
def s11 : PSig := ⟨0, [], []⟩
def fws : Nat → List (FuncId × FW) := fun _ => []
def ptL : List (Pt (TD [.bool])) := [⟨7, s7, fun k (x : Int) => utf8_ValidRune.p7 k x⟩, ⟨11, s11, fun k (x : Unit) => utf8_ValidRune.p11 k x⟩]
def fns : Nat → List (FuncId × FS) := fun _ => []
def fgs : Nat → List (FuncId × FG) := fun _ => []
def fs (k : Nat) : FS := ⟨[(.int .i32)], [.bool], fun (x : Int) => utf8_ValidRune.f k x⟩
theorem ok : FnOk Tryz.prog 137 17 Tryz.f137.results.toList (Tryz.f137.body.getD .skip) 1 := ⟨⟨Tryz.f137, by kernel_rfl, by kernel_rfl, by kernel_rfl, rfl, by kernel_rfl⟩, by kernel_rfl, by decide⟩
theorem c (k : Nat) : Contract Tryz.prog 137 (fs k) :=
  fn_sound (ps := [(.int .i32)]) (rs := [.bool]) (pts := ptL) (fns := fns) (fgs := fgs) (fws := fws) (tys := tyTab) (main := fun k (x : Int) => utf8_ValidRune.f k x) ok mix tyOk ⟨⟨rfl, fun _ => rfl, fun k x => by kernel_rfl⟩, ⟨rfl, fun _ => rfl, fun k x => by kernel_rfl⟩, trivial⟩ (fun k x => by kernel_rfl) (fun _ => ⟨trivial, trivial, trivial⟩) k
end utf8_ValidRune

namespace bytealg_Cutover
def fws : Nat → List (FuncId × FW) := fun _ => []
def ptL : List (Pt (TD [(.int .i64)])) := []
def fns : Nat → List (FuncId × FS) := fun _ => []
def fgs : Nat → List (FuncId × FG) := fun _ => []
def fs (k : Nat) : FS := ⟨[(.int .i64)], [(.int .i64)], fun (x : Int) => bytealg_Cutover.f k x⟩
theorem ok : FnOk Tryz.prog 138 6 Tryz.f138.results.toList (Tryz.f138.body.getD .skip) 1 := ⟨⟨Tryz.f138, by kernel_rfl, by kernel_rfl, by kernel_rfl, rfl, by kernel_rfl⟩, by kernel_rfl, by decide⟩
theorem c (k : Nat) : Contract Tryz.prog 138 (fs k) :=
  fn_sound (ps := [(.int .i64)]) (rs := [(.int .i64)]) (pts := ptL) (fns := fns) (fgs := fgs) (fws := fws) (tys := tyTab) (main := fun k (x : Int) => bytealg_Cutover.f k x) ok mix tyOk trivial (fun k x => by kernel_rfl) (fun _ => ⟨trivial, trivial, trivial⟩) k
end bytealg_Cutover

namespace strings_IndexRune
def s73 : PSig := ⟨0, [], [(0, .val .str), (1, .val (.int .i32))]⟩
def s2 : PSig := ⟨0, [], [(0, .val .str), (7, .val .str), (8, .val (.int .i64)), (9, .val (.int .i64))]⟩
def s23 : PSig := ⟨0, [], [(0, .val .str), (7, .val .str), (8, .val (.int .i64)), (9, .val (.int .i64))]⟩
def s6 : PSig := ⟨0, [], [(0, .val .str), (7, .val .str), (8, .val (.int .i64)), (9, .val (.int .i64)), (12, .val (.int .i64))]⟩
def fws : Nat → List (FuncId × FW) := fun _ => []
def ptL : List (Pt (TD [(.int .i64)])) := [⟨73, s73, fun k (x : ByteArray × Int) => strings_IndexRune.p73 k x.1 x.2⟩, ⟨2, s2, fun k (x : ByteArray × ByteArray × Int × Int) => strings_IndexRune.p2 k x.1 x.2.1 x.2.2.1 x.2.2.2⟩, ⟨23, s23, fun k (x : ByteArray × ByteArray × Int × Int) => strings_IndexRune.p23 k x.1 x.2.1 x.2.2.1 x.2.2.2⟩, ⟨6, s6, fun k (x : ByteArray × ByteArray × Int × Int × Int) => strings_IndexRune.p6 k x.1 x.2.1 x.2.2.1 x.2.2.2.1 x.2.2.2.2⟩]
def fns : Nat → List (FuncId × FS) := fun k => [(136, ⟨[.str, (.int .u8)], [(.int .i64)], fun (x : ByteArray × Int) => strings_IndexByte.f k x.1 x.2⟩), (137, ⟨[(.int .i32)], [.bool], fun (x : Int) => utf8_ValidRune.f k x⟩)]
def fgs : Nat → List (FuncId × FG) := fun _ => []
def fs (k : Nat) : FS := ⟨[.str, (.int .i32)], [(.int .i64)], fun (x : ByteArray × Int) => strings_IndexRune.f k x.1 x.2⟩
theorem ok : FnOk Tryz.prog 99 187 Tryz.f99.results.toList (Tryz.f99.body.getD .skip) 2 := ⟨⟨Tryz.f99, by kernel_rfl, by kernel_rfl, by kernel_rfl, rfl, by kernel_rfl⟩, by kernel_rfl, by decide⟩
theorem c (k : Nat) : Contract Tryz.prog 99 (fs k) :=
  fn_sound (ps := [.str, (.int .i32)]) (rs := [(.int .i64)]) (pts := ptL) (fns := fns) (fgs := fgs) (fws := fws) (tys := tyTab) (main := fun k (x : ByteArray × Int) => strings_IndexRune.f k x.1 x.2) ok mix tyOk ⟨⟨rfl, fun _ => rfl, fun k x => by kernel_rfl⟩, ⟨rfl, fun _ => rfl, fun k x => by kernel_rfl⟩, ⟨rfl, fun _ => rfl, fun k x => by kernel_rfl⟩, ⟨rfl, fun _ => rfl, fun k x => by kernel_rfl⟩, trivial⟩ (fun k x => by kernel_rfl) (fun k => ⟨⟨strings_IndexByte.c k, utf8_ValidRune.c k, trivial⟩, trivial, trivial⟩) k
end strings_IndexRune

namespace strings_IndexRune_h
theorem c (k : Nat) : Contract Tryz.prog 99 ⟨[.str, .int .i32], [.int .i64], fun (x : ByteArray × Int) => strings_IndexRune_h.f k x.1 x.2⟩ := idx_contract (strings_IndexRune.c k)
end strings_IndexRune_h

namespace strings_shouldUseASCIISet
def fws : Nat → List (FuncId × FW) := fun _ => []
def ptL : List (Pt (TD [.bool])) := []
def fns : Nat → List (FuncId × FS) := fun _ => []
def fgs : Nat → List (FuncId × FG) := fun _ => []
def fs (k : Nat) : FS := ⟨[(.int .i64)], [.bool], fun (x : Int) => strings_shouldUseASCIISet.f k x⟩
theorem ok : FnOk Tryz.prog 100 5 Tryz.f100.results.toList (Tryz.f100.body.getD .skip) 1 := ⟨⟨Tryz.f100, by kernel_rfl, by kernel_rfl, by kernel_rfl, rfl, by kernel_rfl⟩, by kernel_rfl, by decide⟩
theorem c (k : Nat) : Contract Tryz.prog 100 (fs k) :=
  fn_sound (ps := [(.int .i64)]) (rs := [.bool]) (pts := ptL) (fns := fns) (fgs := fgs) (fws := fws) (tys := tyTab) (main := fun k (x : Int) => strings_shouldUseASCIISet.f k x) ok mix tyOk trivial (fun k x => by kernel_rfl) (fun _ => ⟨trivial, trivial, trivial⟩) k
end strings_shouldUseASCIISet

namespace utf8_RuneStart
def fws : Nat → List (FuncId × FW) := fun _ => []
def ptL : List (Pt (TD [.bool])) := []
def fns : Nat → List (FuncId × FS) := fun _ => []
def fgs : Nat → List (FuncId × FG) := fun _ => []
def fs (k : Nat) : FS := ⟨[(.int .u8)], [.bool], fun (x : Int) => utf8_RuneStart.f k x⟩
theorem ok : FnOk Tryz.prog 140 6 Tryz.f140.results.toList (Tryz.f140.body.getD .skip) 1 := ⟨⟨Tryz.f140, by kernel_rfl, by kernel_rfl, by kernel_rfl, rfl, by kernel_rfl⟩, by kernel_rfl, by decide⟩
theorem c (k : Nat) : Contract Tryz.prog 140 (fs k) :=
  fn_sound (ps := [(.int .u8)]) (rs := [.bool]) (pts := ptL) (fns := fns) (fgs := fgs) (fws := fws) (tys := tyTab) (main := fun k (x : Int) => utf8_RuneStart.f k x) ok mix tyOk trivial (fun k x => by kernel_rfl) (fun _ => ⟨trivial, trivial, trivial⟩) k
end utf8_RuneStart

namespace utf8_decodeRuneInStringSlow
def fws : Nat → List (FuncId × FW) := fun _ => []
def ptL : List (Pt (TD [(.int .i32), (.int .i64)])) := []
def fns : Nat → List (FuncId × FS) := fun _ => []
def fgs : Nat → List (FuncId × FG) := fun _ => []
def fs (k : Nat) : FS := ⟨[.str], [(.int .i32), (.int .i64)], fun (x : ByteArray) => utf8_decodeRuneInStringSlow.f k x⟩
theorem ok : FnOk Tryz.prog 169 117 Tryz.f169.results.toList (Tryz.f169.body.getD .skip) 1 := ⟨⟨Tryz.f169, by kernel_rfl, by kernel_rfl, by kernel_rfl, rfl, by kernel_rfl⟩, by kernel_rfl, by decide⟩
theorem c (k : Nat) : Contract Tryz.prog 169 (fs k) :=
  fn_sound (ps := [.str]) (rs := [(.int .i32), (.int .i64)]) (pts := ptL) (fns := fns) (fgs := fgs) (fws := fws) (tys := tyTab) (main := fun k (x : ByteArray) => utf8_decodeRuneInStringSlow.f k x) ok mix tyOk trivial (fun k x => by kernel_rfl) (fun _ => ⟨trivial, trivial, trivial⟩) k
end utf8_decodeRuneInStringSlow

namespace utf8_DecodeRuneInString
def s7 : PSig := ⟨0, [], [(0, .val .str)]⟩
def fws : Nat → List (FuncId × FW) := fun _ => []
def ptL : List (Pt (TD [(.int .i32), (.int .i64)])) := [⟨7, s7, fun k (x : ByteArray) => utf8_DecodeRuneInString.p7 k x⟩]
def fns : Nat → List (FuncId × FS) := fun k => [(169, ⟨[.str], [(.int .i32), (.int .i64)], fun (x : ByteArray) => utf8_decodeRuneInStringSlow.f k x⟩)]
def fgs : Nat → List (FuncId × FG) := fun _ => []
def fs (k : Nat) : FS := ⟨[.str], [(.int .i32), (.int .i64)], fun (x : ByteArray) => utf8_DecodeRuneInString.f k x⟩
theorem ok : FnOk Tryz.prog 141 19 Tryz.f141.results.toList (Tryz.f141.body.getD .skip) 1 := ⟨⟨Tryz.f141, by kernel_rfl, by kernel_rfl, by kernel_rfl, rfl, by kernel_rfl⟩, by kernel_rfl, by decide⟩
theorem c (k : Nat) : Contract Tryz.prog 141 (fs k) :=
  fn_sound (ps := [.str]) (rs := [(.int .i32), (.int .i64)]) (pts := ptL) (fns := fns) (fgs := fgs) (fws := fws) (tys := tyTab) (main := fun k (x : ByteArray) => utf8_DecodeRuneInString.f k x) ok mix tyOk ⟨⟨rfl, fun _ => rfl, fun k x => by kernel_rfl⟩, trivial⟩ (fun k x => by kernel_rfl) (fun k => ⟨⟨utf8_decodeRuneInStringSlow.c k, trivial⟩, trivial, trivial⟩) k
end utf8_DecodeRuneInString

namespace utf8_DecodeLastRuneInString
def s0 : PSig := ⟨0, [], [(0, .val .str), (4, .val (.int .i64)), (5, .val (.int .i64)), (6, .val (.int .i64))]⟩
def s27 : PSig := ⟨0, [], [(0, .val .str), (4, .val (.int .i64)), (5, .val (.int .i64))]⟩
def s31 : PSig := ⟨0, [], [(0, .val .str), (4, .val (.int .i64)), (5, .val (.int .i64))]⟩
def fws : Nat → List (FuncId × FW) := fun _ => []
def ptL : List (Pt (TD [(.int .i32), (.int .i64)])) := [⟨0, s0, fun k (x : ByteArray × Int × Int × Int) => utf8_DecodeLastRuneInString.p0 k x.1 x.2.1 x.2.2.1 x.2.2.2⟩, ⟨27, s27, fun k (x : ByteArray × Int × Int) => utf8_DecodeLastRuneInString.p27 k x.1 x.2.1 x.2.2⟩, ⟨31, s31, fun k (x : ByteArray × Int × Int) => utf8_DecodeLastRuneInString.p31 k x.1 x.2.1 x.2.2⟩]
def fns : Nat → List (FuncId × FS) := fun k => [(140, ⟨[(.int .u8)], [.bool], fun (x : Int) => utf8_RuneStart.f k x⟩), (141, ⟨[.str], [(.int .i32), (.int .i64)], fun (x : ByteArray) => utf8_DecodeRuneInString.f k x⟩)]
def fgs : Nat → List (FuncId × FG) := fun _ => []
def fs (k : Nat) : FS := ⟨[.str], [(.int .i32), (.int .i64)], fun (x : ByteArray) => utf8_DecodeLastRuneInString.f k x⟩
theorem ok : FnOk Tryz.prog 103 51 Tryz.f103.results.toList (Tryz.f103.body.getD .skip) 1 := ⟨⟨Tryz.f103, by kernel_rfl, by kernel_rfl, by kernel_rfl, rfl, by kernel_rfl⟩, by kernel_rfl, by decide⟩
theorem c (k : Nat) : Contract Tryz.prog 103 (fs k) :=
  fn_sound (ps := [.str]) (rs := [(.int .i32), (.int .i64)]) (pts := ptL) (fns := fns) (fgs := fgs) (fws := fws) (tys := tyTab) (main := fun k (x : ByteArray) => utf8_DecodeLastRuneInString.f k x) ok mix tyOk ⟨⟨rfl, fun _ => rfl, fun k x => by kernel_rfl⟩, ⟨rfl, fun _ => rfl, fun k x => by kernel_rfl⟩, ⟨rfl, fun _ => rfl, fun k x => by kernel_rfl⟩, trivial⟩ (fun k x => by kernel_rfl) (fun k => ⟨⟨utf8_RuneStart.c k, utf8_DecodeRuneInString.c k, trivial⟩, trivial, trivial⟩) k
end utf8_DecodeLastRuneInString

namespace utf8_DecodeLastRuneInString_h
theorem c (k : Nat) : Contract Tryz.prog 103 ⟨[.str], [.int .i32, .int .i64], fun (x : ByteArray) => utf8_DecodeLastRuneInString_h.f k x⟩ := dec_contract (utf8_DecodeLastRuneInString.c k)
end utf8_DecodeLastRuneInString_h

namespace strings_LastIndexAny
def s15 : PSig := ⟨0, [], [(1, .val .str), (5, .val (.int .i32))]⟩
def s47 : PSig := ⟨0, [], [(0, .val .str), (9, .val (.int .i32))]⟩
def s8 : PSig := ⟨0, [], [(0, .val .str), (1, .val .str), (13, .val (.int .i64))]⟩
def s4 : PSig := ⟨0, [], [(0, .val .str), (9, .val (.int .i32)), (10, .val (.int .i64))]⟩
def fws : Nat → List (FuncId × FW) := fun _ => []
def ptL : List (Pt (TD [(.int .i64)])) := [⟨15, s15, fun k (x : ByteArray × Int) => strings_LastIndexAny.p15 k x.1 x.2⟩, ⟨47, s47, fun k (x : ByteArray × Int) => strings_LastIndexAny.p47 k x.1 x.2⟩, ⟨8, s8, fun k (x : ByteArray × ByteArray × Int) => strings_LastIndexAny.p8 k x.1 x.2.1 x.2.2⟩, ⟨4, s4, fun k (x : ByteArray × Int × Int) => strings_LastIndexAny.p4 k x.1 x.2.1 x.2.2⟩]
def fns : Nat → List (FuncId × FS) := fun k => [(99, ⟨[.str, (.int .i32)], [(.int .i64)], fun (x : ByteArray × Int) => strings_IndexRune_h.f k x.1 x.2⟩), (100, ⟨[(.int .i64)], [.bool], fun (x : Int) => strings_shouldUseASCIISet.f k x⟩), (103, ⟨[.str], [(.int .i32), (.int .i64)], fun (x : ByteArray) => utf8_DecodeLastRuneInString_h.f k x⟩)]
def fgs : Nat → List (FuncId × FG) := fun _ => []
def fs (k : Nat) : FS := ⟨[.str, .str], [(.int .i64)], fun (x : ByteArray × ByteArray) => strings_LastIndexAny.f k x.1 x.2⟩
theorem ok : FnOk Tryz.prog 63 96 Tryz.f63.results.toList (Tryz.f63.body.getD .skip) 2 := ⟨⟨Tryz.f63, by kernel_rfl, by kernel_rfl, by kernel_rfl, rfl, by kernel_rfl⟩, by kernel_rfl, by decide⟩
theorem c (k : Nat) : Contract Tryz.prog 63 (fs k) :=
  fn_sound (ps := [.str, .str]) (rs := [(.int .i64)]) (pts := ptL) (fns := fns) (fgs := fgs) (fws := fws) (tys := tyTab) (main := fun k (x : ByteArray × ByteArray) => strings_LastIndexAny.f k x.1 x.2) ok mix tyOk ⟨⟨rfl, fun _ => rfl, fun k x => by kernel_rfl⟩, ⟨rfl, fun _ => rfl, fun k x => by kernel_rfl⟩, ⟨rfl, fun _ => rfl, fun k x => by kernel_rfl⟩, ⟨rfl, fun _ => rfl, fun k x => by kernel_rfl⟩, trivial⟩ (fun k x => by kernel_rfl) (fun k => ⟨⟨strings_IndexRune_h.c k, strings_shouldUseASCIISet.c k, utf8_DecodeLastRuneInString_h.c k, trivial⟩, trivial, trivial⟩) k
end strings_LastIndexAny

namespace strings_LastIndexAny_h
theorem c (k : Nat) : Contract Tryz.prog 63 ⟨[.str, .str], [.int .i64], fun (x : ByteArray × ByteArray) => strings_LastIndexAny_h.f k x.1 x.2⟩ := last_contract (strings_LastIndexAny.c k)
end strings_LastIndexAny_h

namespace stringslite_HasPrefix
def fws : Nat → List (FuncId × FW) := fun _ => []
def ptL : List (Pt (TD [.bool])) := []
def fns : Nat → List (FuncId × FS) := fun _ => []
def fgs : Nat → List (FuncId × FG) := fun _ => []
def fs (k : Nat) : FS := ⟨[.str, .str], [.bool], fun (x : ByteArray × ByteArray) => stringslite_HasPrefix.f k x.1 x.2⟩
theorem ok : FnOk Tryz.prog 142 18 Tryz.f142.results.toList (Tryz.f142.body.getD .skip) 2 := ⟨⟨Tryz.f142, by kernel_rfl, by kernel_rfl, by kernel_rfl, rfl, by kernel_rfl⟩, by kernel_rfl, by decide⟩
theorem c (k : Nat) : Contract Tryz.prog 142 (fs k) :=
  fn_sound (ps := [.str, .str]) (rs := [.bool]) (pts := ptL) (fns := fns) (fgs := fgs) (fws := fws) (tys := tyTab) (main := fun k (x : ByteArray × ByteArray) => stringslite_HasPrefix.f k x.1 x.2) ok mix tyOk trivial (fun k x => by kernel_rfl) (fun _ => ⟨trivial, trivial, trivial⟩) k
end stringslite_HasPrefix

namespace stringslite_TrimPrefix
def fws : Nat → List (FuncId × FW) := fun _ => []
def ptL : List (Pt (TD [.str])) := []
def fns : Nat → List (FuncId × FS) := fun k => [(142, ⟨[.str, .str], [.bool], fun (x : ByteArray × ByteArray) => stringslite_HasPrefix.f k x.1 x.2⟩)]
def fgs : Nat → List (FuncId × FG) := fun _ => []
def fs (k : Nat) : FS := ⟨[.str, .str], [.str], fun (x : ByteArray × ByteArray) => stringslite_TrimPrefix.f k x.1 x.2⟩
theorem ok : FnOk Tryz.prog 104 13 Tryz.f104.results.toList (Tryz.f104.body.getD .skip) 2 := ⟨⟨Tryz.f104, by kernel_rfl, by kernel_rfl, by kernel_rfl, rfl, by kernel_rfl⟩, by kernel_rfl, by decide⟩
theorem c (k : Nat) : Contract Tryz.prog 104 (fs k) :=
  fn_sound (ps := [.str, .str]) (rs := [.str]) (pts := ptL) (fns := fns) (fgs := fgs) (fws := fws) (tys := tyTab) (main := fun k (x : ByteArray × ByteArray) => stringslite_TrimPrefix.f k x.1 x.2) ok mix tyOk trivial (fun k x => by kernel_rfl) (fun k => ⟨⟨stringslite_HasPrefix.c k, trivial⟩, trivial, trivial⟩) k
end stringslite_TrimPrefix

namespace strings_TrimPrefix
def fws : Nat → List (FuncId × FW) := fun _ => []
def ptL : List (Pt (TD [.str])) := []
def fns : Nat → List (FuncId × FS) := fun k => [(104, ⟨[.str, .str], [.str], fun (x : ByteArray × ByteArray) => stringslite_TrimPrefix.f k x.1 x.2⟩)]
def fgs : Nat → List (FuncId × FG) := fun _ => []
def fs (k : Nat) : FS := ⟨[.str, .str], [.str], fun (x : ByteArray × ByteArray) => strings_TrimPrefix.f k x.1 x.2⟩
theorem ok : FnOk Tryz.prog 64 8 Tryz.f64.results.toList (Tryz.f64.body.getD .skip) 2 := ⟨⟨Tryz.f64, by kernel_rfl, by kernel_rfl, by kernel_rfl, rfl, by kernel_rfl⟩, by kernel_rfl, by decide⟩
theorem c (k : Nat) : Contract Tryz.prog 64 (fs k) :=
  fn_sound (ps := [.str, .str]) (rs := [.str]) (pts := ptL) (fns := fns) (fgs := fgs) (fws := fws) (tys := tyTab) (main := fun k (x : ByteArray × ByteArray) => strings_TrimPrefix.f k x.1 x.2) ok mix tyOk trivial (fun k x => by kernel_rfl) (fun k => ⟨⟨stringslite_TrimPrefix.c k, trivial⟩, trivial, trivial⟩) k
end strings_TrimPrefix

namespace stringslite_CutPrefix
def fws : Nat → List (FuncId × FW) := fun _ => []
def ptL : List (Pt (TD [.str, .bool])) := []
def fns : Nat → List (FuncId × FS) := fun k => [(142, ⟨[.str, .str], [.bool], fun (x : ByteArray × ByteArray) => stringslite_HasPrefix.f k x.1 x.2⟩)]
def fgs : Nat → List (FuncId × FG) := fun _ => []
def fs (k : Nat) : FS := ⟨[.str, .str], [.str, .bool], fun (x : ByteArray × ByteArray) => stringslite_CutPrefix.f k x.1 x.2⟩
theorem ok : FnOk Tryz.prog 143 15 Tryz.f143.results.toList (Tryz.f143.body.getD .skip) 2 := ⟨⟨Tryz.f143, by kernel_rfl, by kernel_rfl, by kernel_rfl, rfl, by kernel_rfl⟩, by kernel_rfl, by decide⟩
theorem c (k : Nat) : Contract Tryz.prog 143 (fs k) :=
  fn_sound (ps := [.str, .str]) (rs := [.str, .bool]) (pts := ptL) (fns := fns) (fgs := fgs) (fws := fws) (tys := tyTab) (main := fun k (x : ByteArray × ByteArray) => stringslite_CutPrefix.f k x.1 x.2) ok mix tyOk trivial (fun k x => by kernel_rfl) (fun k => ⟨⟨stringslite_HasPrefix.c k, trivial⟩, trivial, trivial⟩) k
end stringslite_CutPrefix

namespace strings_CutPrefix
def fws : Nat → List (FuncId × FW) := fun _ => []
def ptL : List (Pt (TD [.str, .bool])) := []
def fns : Nat → List (FuncId × FS) := fun k => [(143, ⟨[.str, .str], [.str, .bool], fun (x : ByteArray × ByteArray) => stringslite_CutPrefix.f k x.1 x.2⟩)]
def fgs : Nat → List (FuncId × FG) := fun _ => []
def fs (k : Nat) : FS := ⟨[.str, .str], [.str, .bool], fun (x : ByteArray × ByteArray) => strings_CutPrefix.f k x.1 x.2⟩
theorem ok : FnOk Tryz.prog 105 11 Tryz.f105.results.toList (Tryz.f105.body.getD .skip) 2 := ⟨⟨Tryz.f105, by kernel_rfl, by kernel_rfl, by kernel_rfl, rfl, by kernel_rfl⟩, by kernel_rfl, by decide⟩
theorem c (k : Nat) : Contract Tryz.prog 105 (fs k) :=
  fn_sound (ps := [.str, .str]) (rs := [.str, .bool]) (pts := ptL) (fns := fns) (fgs := fgs) (fws := fws) (tys := tyTab) (main := fun k (x : ByteArray × ByteArray) => strings_CutPrefix.f k x.1 x.2) ok mix tyOk trivial (fun k x => by kernel_rfl) (fun k => ⟨⟨stringslite_CutPrefix.c k, trivial⟩, trivial, trivial⟩) k
end strings_CutPrefix

namespace bytealg_hashStr_string_
def s0 : PSig := ⟨0, [], [(0, .val .str), (4, .val (.int .u32)), (5, .val (.int .i64))]⟩
def s4 : PSig := ⟨0, [], [(4, .val (.int .u32)), (6, .val (.int .u32)), (7, .val (.int .u32)), (8, .val (.int .i64))]⟩
def s25 : PSig := ⟨0, [], [(4, .val (.int .u32)), (6, .val (.int .u32)), (7, .val (.int .u32)), (8, .val (.int .i64))]⟩
def fws : Nat → List (FuncId × FW) := fun _ => []
def ptL : List (Pt (TD [(.int .u32), (.int .u32)])) := [⟨0, s0, fun k (x : ByteArray × Int × Int) => bytealg_hashStr_string_.p0 k x.1 x.2.1 x.2.2⟩, ⟨4, s4, fun k (x : Int × Int × Int × Int) => bytealg_hashStr_string_.p4 k x.1 x.2.1 x.2.2.1 x.2.2.2⟩, ⟨25, s25, fun k (x : Int × Int × Int × Int) => bytealg_hashStr_string_.p25 k x.1 x.2.1 x.2.2.1 x.2.2.2⟩]
def fns : Nat → List (FuncId × FS) := fun _ => []
def fgs : Nat → List (FuncId × FG) := fun _ => []
def fs (k : Nat) : FS := ⟨[.str], [(.int .u32), (.int .u32)], fun (x : ByteArray) => bytealg_hashStr_string_.f k x⟩
theorem ok : FnOk Tryz.prog 181 39 Tryz.f181.results.toList (Tryz.f181.body.getD .skip) 1 := ⟨⟨Tryz.f181, by kernel_rfl, by kernel_rfl, by kernel_rfl, rfl, by kernel_rfl⟩, by kernel_rfl, by decide⟩
theorem c (k : Nat) : Contract Tryz.prog 181 (fs k) :=
  fn_sound (ps := [.str]) (rs := [(.int .u32), (.int .u32)]) (pts := ptL) (fns := fns) (fgs := fgs) (fws := fws) (tys := tyTab) (main := fun k (x : ByteArray) => bytealg_hashStr_string_.f k x) ok mix tyOk ⟨⟨rfl, fun _ => rfl, fun k x => by kernel_rfl⟩, ⟨rfl, fun _ => rfl, fun k x => by kernel_rfl⟩, ⟨rfl, fun _ => rfl, fun k x => by kernel_rfl⟩, trivial⟩ (fun k x => by kernel_rfl) (fun _ => ⟨trivial, trivial, trivial⟩) k
end bytealg_hashStr_string_

namespace bytealg_IndexRabinKarp_string_
def s0 : PSig := ⟨0, [], [(0, .val .str), (1, .val .str), (5, .val (.int .u32)), (6, .val (.int .u32)), (7, .val (.int .i64)), (8, .val (.int .u32)), (9, .val (.int .i64))]⟩
def s21 : PSig := ⟨0, [], [(0, .val .str), (1, .val .str), (5, .val (.int .u32)), (6, .val (.int .u32)), (7, .val (.int .i64)), (8, .val (.int .u32))]⟩
def s4 : PSig := ⟨0, [], [(0, .val .str), (1, .val .str), (5, .val (.int .u32)), (6, .val (.int .u32)), (7, .val (.int .i64)), (8, .val (.int .u32)), (10, .val (.int .i64))]⟩
def fws : Nat → List (FuncId × FW) := fun _ => []
def ptL : List (Pt (TD [(.int .i64)])) := [⟨0, s0, fun k (x : ByteArray × ByteArray × Int × Int × Int × Int × Int) => bytealg_IndexRabinKarp_string_.p0 k x.1 x.2.1 x.2.2.1 x.2.2.2.1 x.2.2.2.2.1 x.2.2.2.2.2.1 x.2.2.2.2.2.2⟩, ⟨21, s21, fun k (x : ByteArray × ByteArray × Int × Int × Int × Int) => bytealg_IndexRabinKarp_string_.p21 k x.1 x.2.1 x.2.2.1 x.2.2.2.1 x.2.2.2.2.1 x.2.2.2.2.2⟩, ⟨4, s4, fun k (x : ByteArray × ByteArray × Int × Int × Int × Int × Int) => bytealg_IndexRabinKarp_string_.p4 k x.1 x.2.1 x.2.2.1 x.2.2.2.1 x.2.2.2.2.1 x.2.2.2.2.2.1 x.2.2.2.2.2.2⟩]
def fns : Nat → List (FuncId × FS) := fun k => [(181, ⟨[.str], [(.int .u32), (.int .u32)], fun (x : ByteArray) => bytealg_hashStr_string_.f k x⟩)]
def fgs : Nat → List (FuncId × FG) := fun _ => []
def fs (k : Nat) : FS := ⟨[.str, .str], [(.int .i64)], fun (x : ByteArray × ByteArray) => bytealg_IndexRabinKarp_string_.f k x.1 x.2⟩
theorem ok : FnOk Tryz.prog 177 81 Tryz.f177.results.toList (Tryz.f177.body.getD .skip) 2 := ⟨⟨Tryz.f177, by kernel_rfl, by kernel_rfl, by kernel_rfl, rfl, by kernel_rfl⟩, by kernel_rfl, by decide⟩
theorem c (k : Nat) : Contract Tryz.prog 177 (fs k) :=
  fn_sound (ps := [.str, .str]) (rs := [(.int .i64)]) (pts := ptL) (fns := fns) (fgs := fgs) (fws := fws) (tys := tyTab) (main := fun k (x : ByteArray × ByteArray) => bytealg_IndexRabinKarp_string_.f k x.1 x.2) ok mix tyOk ⟨⟨rfl, fun _ => rfl, fun k x => by kernel_rfl⟩, ⟨rfl, fun _ => rfl, fun k x => by kernel_rfl⟩, ⟨rfl, fun _ => rfl, fun k x => by kernel_rfl⟩, trivial⟩ (fun k x => by kernel_rfl) (fun k => ⟨⟨bytealg_hashStr_string_.c k, trivial⟩, trivial, trivial⟩) k
end bytealg_IndexRabinKarp_string_

namespace stringslite_Index
def s7 : PSig := ⟨0, [], []⟩
def fws : Nat → List (FuncId × FW) := fun _ => []
def ptL : List (Pt (TD [(.int .i64)])) := [⟨7, s7, fun k (x : Unit) => stringslite_Index.p7 k x⟩]
def fns : Nat → List (FuncId × FS) := fun k => [(168, ⟨[.str, (.int .u8)], [(.int .i64)], fun (x : ByteArray × Int) => stringslite_IndexByte.f k x.1 x.2⟩)]
def fgs : Nat → List (FuncId × FG) := fun _ => []
def fs (k : Nat) : FS := ⟨[.str, .str], [(.int .i64)], fun (x : ByteArray × ByteArray) => stringslite_Index.f k x.1 x.2⟩
theorem ok : FnOk Tryz.prog 170 143 Tryz.f170.results.toList (Tryz.f170.body.getD .skip) 2 := ⟨⟨Tryz.f170, by kernel_rfl, by kernel_rfl, by kernel_rfl, rfl, by kernel_rfl⟩, by kernel_rfl, by decide⟩
theorem c (k : Nat) : Contract Tryz.prog 170 (fs k) :=
  fn_sound (ps := [.str, .str]) (rs := [(.int .i64)]) (pts := ptL) (fns := fns) (fgs := fgs) (fws := fws) (tys := tyTab) (main := fun k (x : ByteArray × ByteArray) => stringslite_Index.f k x.1 x.2) ok mix tyOk ⟨⟨rfl, fun _ => rfl, fun k x => by kernel_rfl⟩, trivial⟩ (fun k x => by kernel_rfl) (fun k => ⟨⟨stringslite_IndexByte.c k, trivial⟩, trivial, trivial⟩) k
end stringslite_Index

namespace stringslite_Cut
def fws : Nat → List (FuncId × FW) := fun _ => []
def ptL : List (Pt (TD [.str, .str, .bool])) := []
def fns : Nat → List (FuncId × FS) := fun k => [(170, ⟨[.str, .str], [(.int .i64)], fun (x : ByteArray × ByteArray) => stringslite_Index.f k x.1 x.2⟩)]
def fgs : Nat → List (FuncId × FG) := fun _ => []
def fs (k : Nat) : FS := ⟨[.str, .str], [.str, .str, .bool], fun (x : ByteArray × ByteArray) => stringslite_Cut.f k x.1 x.2⟩
theorem ok : FnOk Tryz.prog 144 23 Tryz.f144.results.toList (Tryz.f144.body.getD .skip) 2 := ⟨⟨Tryz.f144, by kernel_rfl, by kernel_rfl, by kernel_rfl, rfl, by kernel_rfl⟩, by kernel_rfl, by decide⟩
theorem c (k : Nat) : Contract Tryz.prog 144 (fs k) :=
  fn_sound (ps := [.str, .str]) (rs := [.str, .str, .bool]) (pts := ptL) (fns := fns) (fgs := fgs) (fws := fws) (tys := tyTab) (main := fun k (x : ByteArray × ByteArray) => stringslite_Cut.f k x.1 x.2) ok mix tyOk trivial (fun k x => by kernel_rfl) (fun k => ⟨⟨stringslite_Index.c k, trivial⟩, trivial, trivial⟩) k
end stringslite_Cut

namespace strings_Cut
def fws : Nat → List (FuncId × FW) := fun _ => []
def ptL : List (Pt (TD [.str, .str, .bool])) := []
def fns : Nat → List (FuncId × FS) := fun k => [(144, ⟨[.str, .str], [.str, .str, .bool], fun (x : ByteArray × ByteArray) => stringslite_Cut.f k x.1 x.2⟩)]
def fgs : Nat → List (FuncId × FG) := fun _ => []
def fs (k : Nat) : FS := ⟨[.str, .str], [.str, .str, .bool], fun (x : ByteArray × ByteArray) => strings_Cut.f k x.1 x.2⟩
theorem ok : FnOk Tryz.prog 106 13 Tryz.f106.results.toList (Tryz.f106.body.getD .skip) 2 := ⟨⟨Tryz.f106, by kernel_rfl, by kernel_rfl, by kernel_rfl, rfl, by kernel_rfl⟩, by kernel_rfl, by decide⟩
theorem c (k : Nat) : Contract Tryz.prog 106 (fs k) :=
  fn_sound (ps := [.str, .str]) (rs := [.str, .str, .bool]) (pts := ptL) (fns := fns) (fgs := fgs) (fws := fws) (tys := tyTab) (main := fun k (x : ByteArray × ByteArray) => strings_Cut.f k x.1 x.2) ok mix tyOk trivial (fun k x => by kernel_rfl) (fun k => ⟨⟨stringslite_Cut.c k, trivial⟩, trivial, trivial⟩) k
end strings_Cut

namespace nat_trim
def s0 : PSig := ⟨0, [], [(0, .val (.list (.int .u32))), (3, .val (.int .i64))]⟩
def s9 : PSig := ⟨0, [], [(0, .val (.list (.int .u32))), (3, .val (.int .i64))]⟩
def fws : Nat → List (FuncId × FW) := fun _ => []
def ptL : List (Pt (TD [(.list (.int .u32))])) := [⟨0, s0, fun k (x : (List Int) × Int) => nat_trim.p0 k x.1 x.2⟩, ⟨9, s9, fun k (x : (List Int) × Int) => nat_trim.p9 k x.1 x.2⟩]
def fns : Nat → List (FuncId × FS) := fun _ => []
def fgs : Nat → List (FuncId × FG) := fun _ => []
def fs (k : Nat) : FS := ⟨[(.list (.int .u32))], [(.list (.int .u32))], fun (x : (List Int)) => nat_trim.f k x⟩
theorem ok : FnOk Tryz.prog 132 21 Tryz.f132.results.toList (Tryz.f132.body.getD .skip) 1 := ⟨⟨Tryz.f132, by kernel_rfl, by kernel_rfl, by kernel_rfl, rfl, by kernel_rfl⟩, by kernel_rfl, by decide⟩
theorem c (k : Nat) : Contract Tryz.prog 132 (fs k) :=
  fn_sound (ps := [(.list (.int .u32))]) (rs := [(.list (.int .u32))]) (pts := ptL) (fns := fns) (fgs := fgs) (fws := fws) (tys := tyTab) (main := fun k (x : (List Int)) => nat_trim.f k x) ok mix tyOk ⟨⟨rfl, fun _ => rfl, fun k x => by kernel_rfl⟩, ⟨rfl, fun _ => rfl, fun k x => by kernel_rfl⟩, trivial⟩ (fun k x => by kernel_rfl) (fun _ => ⟨trivial, trivial, trivial⟩) k
end nat_trim

namespace nat_own
def fws : Nat → List (FuncId × FW) := fun _ => []
def ptL : List (Pt (TD [(.list (.int .u32))])) := []
def fns : Nat → List (FuncId × FS) := fun k => [(132, ⟨[(.list (.int .u32))], [(.list (.int .u32))], fun (x : (List Int)) => nat_trim.f k x⟩)]
def fgs : Nat → List (FuncId × FG) := fun _ => []
def fs (k : Nat) : FS := ⟨[(.list (.int .u32))], [(.list (.int .u32))], fun (x : (List Int)) => nat_own.f k x⟩
theorem ok : FnOk Tryz.prog 145 16 Tryz.f145.results.toList (Tryz.f145.body.getD .skip) 1 := ⟨⟨Tryz.f145, by kernel_rfl, by kernel_rfl, by kernel_rfl, rfl, by kernel_rfl⟩, by kernel_rfl, by decide⟩
theorem c (k : Nat) : Contract Tryz.prog 145 (fs k) :=
  fn_sound (ps := [(.list (.int .u32))]) (rs := [(.list (.int .u32))]) (pts := ptL) (fns := fns) (fgs := fgs) (fws := fws) (tys := tyTab) (main := fun k (x : (List Int)) => nat_own.f k x) ok mix tyOk trivial (fun k x => by kernel_rfl) (fun k => ⟨⟨nat_trim.c k, trivial⟩, trivial, trivial⟩) k
def fw (k : Nat) : FW := ⟨[(.list (.int .u32))], 55, (.int .u32), false, fun (x : (List Int)) => nat_own.f k x⟩
def ptW : List (Pt (List (Ty.D (.int .u32)))) := []
theorem cw (k : Nat) : ContractW Tryz.prog 145 (fw k) :=
  fn_soundW (ps := [(.list (.int .u32))]) (e := 55) (t := (.int .u32)) (bx := false) (pts := ptW) (fns := fns) (fgs := fgs) (fws := fws) (tys := tyTab) (main := fun k (x : (List Int)) => nat_own.f k x) ok mix tyOk trivial (fun k x => by kernel_rfl) (fun k => ⟨⟨nat_trim.c k, trivial⟩, trivial, trivial⟩) k
end nat_own

namespace nat_Parse
def s5 : PSig := ⟨0, [], []⟩
def s9 : PSig := ⟨0, [], []⟩
def s11 : PSig := ⟨0, [], [(0, .val .str), (1, .val (.int .i64))]⟩
def s0 : PSig := ⟨0, [(55, (.int .u32), false)], [(0, .val .str), (1, .val (.int .i64)), (6, .own 0), (31, .val (.int .i64)), (32, .val (.int .i64))]⟩
def s23 : PSig := ⟨0, [], []⟩
def s4 : PSig := ⟨0, [(55, (.int .u32), false)], [(0, .val .str), (1, .val (.int .i64)), (6, .own 0), (9, .val (.int .u64)), (31, .val (.int .i64)), (32, .val (.int .i64)), (59, .val (.int .i64)), (60, .val (.int .i64))]⟩
def s45 : PSig := ⟨0, [(55, (.int .u32), false)], [(0, .val .str), (1, .val (.int .i64)), (6, .own 0), (31, .val (.int .i64)), (32, .val (.int .i64))]⟩
def fws : Nat → List (FuncId × FW) := fun _ => []
def ptL : List (Pt (TD [(.list (.int .u32)), (.int .i64)])) := [⟨5, s5, fun k (x : Unit) => nat_Parse.p5 k x⟩, ⟨9, s9, fun k (x : Unit) => nat_Parse.p9 k x⟩, ⟨11, s11, fun k (x : ByteArray × Int) => nat_Parse.p11 k x.1 x.2⟩, ⟨0, s0, fun k (x : (List Int) × ByteArray × Int × Int × Int) => nat_Parse.p0 k x.1 x.2.1 x.2.2.1 x.2.2.2.1 x.2.2.2.2⟩, ⟨23, s23, fun k (x : Unit) => nat_Parse.p23 k x⟩, ⟨4, s4, fun k (x : (List Int) × ByteArray × Int × Int × Int × Int × Int × Int) => nat_Parse.p4 k x.1 x.2.1 x.2.2.1 x.2.2.2.1 x.2.2.2.2.1 x.2.2.2.2.2.1 x.2.2.2.2.2.2.1 x.2.2.2.2.2.2.2⟩, ⟨45, s45, fun k (x : (List Int) × ByteArray × Int × Int × Int) => nat_Parse.p45 k x.1 x.2.1 x.2.2.1 x.2.2.2.1 x.2.2.2.2⟩]
def fns : Nat → List (FuncId × FS) := fun k => [(145, ⟨[(.list (.int .u32))], [(.list (.int .u32))], fun (x : (List Int)) => nat_own.f k x⟩)]
def fgs : Nat → List (FuncId × FG) := fun _ => []
def fs (k : Nat) : FS := ⟨[.str, (.int .i64)], [(.list (.int .u32)), (.int .i64)], fun (x : ByteArray × Int) => nat_Parse.f k x.1 x.2⟩
theorem ok : FnOk Tryz.prog 107 91 Tryz.f107.results.toList (Tryz.f107.body.getD .skip) 2 := ⟨⟨Tryz.f107, by kernel_rfl, by kernel_rfl, by kernel_rfl, rfl, by kernel_rfl⟩, by kernel_rfl, by decide⟩
theorem c (k : Nat) : Contract Tryz.prog 107 (fs k) :=
  fn_sound (ps := [.str, (.int .i64)]) (rs := [(.list (.int .u32)), (.int .i64)]) (pts := ptL) (fns := fns) (fgs := fgs) (fws := fws) (tys := tyTab) (main := fun k (x : ByteArray × Int) => nat_Parse.f k x.1 x.2) ok mix tyOk ⟨⟨rfl, fun _ => rfl, fun k x => by kernel_rfl⟩, ⟨rfl, fun _ => rfl, fun k x => by kernel_rfl⟩, ⟨rfl, fun _ => rfl, fun k x => by kernel_rfl⟩, ⟨rfl, fun _ => rfl, fun k x => by kernel_rfl⟩, ⟨rfl, fun _ => rfl, fun k x => by kernel_rfl⟩, ⟨rfl, fun _ => rfl, fun k x => by kernel_rfl⟩, ⟨rfl, fun _ => rfl, fun k x => by kernel_rfl⟩, trivial⟩ (fun k x => by kernel_rfl) (fun k => ⟨⟨nat_own.c k, trivial⟩, trivial, trivial⟩) k
end nat_Parse

namespace nat_Cmp
def s0 : PSig := ⟨0, [], [(0, .val (.list (.int .u32))), (1, .val (.list (.int .u32))), (5, .val (.int .i64))]⟩
def fws : Nat → List (FuncId × FW) := fun _ => []
def ptL : List (Pt (TD [(.int .i64)])) := [⟨0, s0, fun k (x : (List Int) × (List Int) × Int) => nat_Cmp.p0 k x.1 x.2.1 x.2.2⟩]
def fns : Nat → List (FuncId × FS) := fun k => [(132, ⟨[(.list (.int .u32))], [(.list (.int .u32))], fun (x : (List Int)) => nat_trim.f k x⟩)]
def fgs : Nat → List (FuncId × FG) := fun _ => []
def fs (k : Nat) : FS := ⟨[(.list (.int .u32)), (.list (.int .u32))], [(.int .i64)], fun (x : (List Int) × (List Int)) => nat_Cmp.f k x.1 x.2⟩
theorem ok : FnOk Tryz.prog 92 45 Tryz.f92.results.toList (Tryz.f92.body.getD .skip) 2 := ⟨⟨Tryz.f92, by kernel_rfl, by kernel_rfl, by kernel_rfl, rfl, by kernel_rfl⟩, by kernel_rfl, by decide⟩
theorem c (k : Nat) : Contract Tryz.prog 92 (fs k) :=
  fn_sound (ps := [(.list (.int .u32)), (.list (.int .u32))]) (rs := [(.int .i64)]) (pts := ptL) (fns := fns) (fgs := fgs) (fws := fws) (tys := tyTab) (main := fun k (x : (List Int) × (List Int)) => nat_Cmp.f k x.1 x.2) ok mix tyOk ⟨⟨rfl, fun _ => rfl, fun k x => by kernel_rfl⟩, trivial⟩ (fun k x => by kernel_rfl) (fun k => ⟨⟨nat_trim.c k, trivial⟩, trivial, trivial⟩) k
end nat_Cmp

namespace bits_Div32
def s7 : PSig := ⟨0, [], [(0, .val (.int .u32)), (1, .val (.int .u32)), (2, .val (.int .u32))]⟩
def fws : Nat → List (FuncId × FW) := fun _ => []
def ptL : List (Pt (TD [(.int .u32), (.int .u32)])) := [⟨7, s7, fun k (x : Int × Int × Int) => bits_Div32.p7 k x.1 x.2.1 x.2.2⟩]
def fns : Nat → List (FuncId × FS) := fun _ => []
def fgs : Nat → List (FuncId × FG) := fun _ => []
def fs (k : Nat) : FS := ⟨[(.int .u32), (.int .u32), (.int .u32)], [(.int .u32), (.int .u32)], fun (x : Int × Int × Int) => bits_Div32.f k x.1 x.2.1 x.2.2⟩
theorem ok : FnOk Tryz.prog 175 33 Tryz.f175.results.toList (Tryz.f175.body.getD .skip) 3 := ⟨⟨Tryz.f175, by kernel_rfl, by kernel_rfl, by kernel_rfl, rfl, by kernel_rfl⟩, by kernel_rfl, by decide⟩
theorem c (k : Nat) : Contract Tryz.prog 175 (fs k) :=
  fn_sound (ps := [(.int .u32), (.int .u32), (.int .u32)]) (rs := [(.int .u32), (.int .u32)]) (pts := ptL) (fns := fns) (fgs := fgs) (fws := fws) (tys := tyTab) (main := fun k (x : Int × Int × Int) => bits_Div32.f k x.1 x.2.1 x.2.2) ok mix tyOk ⟨⟨rfl, fun _ => rfl, fun k x => by kernel_rfl⟩, trivial⟩ (fun k x => by kernel_rfl) (fun _ => ⟨trivial, trivial, trivial⟩) k
end bits_Div32

namespace nat_short
def s0 : PSig := ⟨0, [(55, (.int .u32), false)], [(0, .val (.list (.int .u32))), (1, .val (.int .u32)), (6, .own 0), (7, .val (.int .u32)), (8, .val (.int .i64))]⟩
def fws : Nat → List (FuncId × FW) := fun _ => []
def ptL : List (Pt (TD [(.list (.int .u32)), (.int .u32)])) := [⟨0, s0, fun k (x : (List Int) × (List Int) × Int × Int × Int) => nat_short.p0 k x.1 x.2.1 x.2.2.1 x.2.2.2.1 x.2.2.2.2⟩]
def fns : Nat → List (FuncId × FS) := fun k => [(175, ⟨[(.int .u32), (.int .u32), (.int .u32)], [(.int .u32), (.int .u32)], fun (x : Int × Int × Int) => bits_Div32.f k x.1 x.2.1 x.2.2⟩)]
def fgs : Nat → List (FuncId × FG) := fun _ => []
def fs (k : Nat) : FS := ⟨[(.list (.int .u32)), (.int .u32)], [(.list (.int .u32)), (.int .u32)], fun (x : (List Int) × Int) => nat_short.f k x.1 x.2⟩
theorem ok : FnOk Tryz.prog 166 34 Tryz.f166.results.toList (Tryz.f166.body.getD .skip) 2 := ⟨⟨Tryz.f166, by kernel_rfl, by kernel_rfl, by kernel_rfl, rfl, by kernel_rfl⟩, by kernel_rfl, by decide⟩
theorem c (k : Nat) : Contract Tryz.prog 166 (fs k) :=
  fn_sound (ps := [(.list (.int .u32)), (.int .u32)]) (rs := [(.list (.int .u32)), (.int .u32)]) (pts := ptL) (fns := fns) (fgs := fgs) (fws := fws) (tys := tyTab) (main := fun k (x : (List Int) × Int) => nat_short.f k x.1 x.2) ok mix tyOk ⟨⟨rfl, fun _ => rfl, fun k x => by kernel_rfl⟩, trivial⟩ (fun k x => by kernel_rfl) (fun k => ⟨⟨bits_Div32.c k, trivial⟩, trivial, trivial⟩) k
end nat_short

namespace bits_Len32
def s9 : PSig := ⟨0, [], [(0, .val (.int .u32)), (2, .val (.int .i64))]⟩
def s15 : PSig := ⟨0, [], [(0, .val (.int .u32)), (2, .val (.int .i64))]⟩
def fws : Nat → List (FuncId × FW) := fun _ => []
def ptL : List (Pt (TD [(.int .i64)])) := [⟨9, s9, fun k (x : Int × Int) => bits_Len32.p9 k x.1 x.2⟩, ⟨15, s15, fun k (x : Int × Int) => bits_Len32.p15 k x.1 x.2⟩]
def fns : Nat → List (FuncId × FS) := fun _ => []
def fgs : Nat → List (FuncId × FG) := fun _ => []
def fs (k : Nat) : FS := ⟨[(.int .u32)], [(.int .i64)], fun (x : Int) => bits_Len32.f k x⟩
theorem ok : FnOk Tryz.prog 158 19 Tryz.f158.results.toList (Tryz.f158.body.getD .skip) 1 := ⟨⟨Tryz.f158, by kernel_rfl, by kernel_rfl, by kernel_rfl, rfl, by kernel_rfl⟩, by kernel_rfl, by decide⟩
theorem c (k : Nat) : Contract Tryz.prog 158 (fs k) :=
  fn_sound (ps := [(.int .u32)]) (rs := [(.int .i64)]) (pts := ptL) (fns := fns) (fgs := fgs) (fws := fws) (tys := tyTab) (main := fun k (x : Int) => bits_Len32.f k x) ok mix tyOk ⟨⟨rfl, fun _ => rfl, fun k x => by kernel_rfl⟩, ⟨rfl, fun _ => rfl, fun k x => by kernel_rfl⟩, trivial⟩ (fun k x => by kernel_rfl) (fun _ => ⟨trivial, trivial, trivial⟩) k
end bits_Len32

namespace bits_LeadingZeros32
def fws : Nat → List (FuncId × FW) := fun _ => []
def ptL : List (Pt (TD [(.int .i64)])) := []
def fns : Nat → List (FuncId × FS) := fun k => [(158, ⟨[(.int .u32)], [(.int .i64)], fun (x : Int) => bits_Len32.f k x⟩)]
def fgs : Nat → List (FuncId × FG) := fun _ => []
def fs (k : Nat) : FS := ⟨[(.int .u32)], [(.int .i64)], fun (x : Int) => bits_LeadingZeros32.f k x⟩
theorem ok : FnOk Tryz.prog 178 6 Tryz.f178.results.toList (Tryz.f178.body.getD .skip) 1 := ⟨⟨Tryz.f178, by kernel_rfl, by kernel_rfl, by kernel_rfl, rfl, by kernel_rfl⟩, by kernel_rfl, by decide⟩
theorem c (k : Nat) : Contract Tryz.prog 178 (fs k) :=
  fn_sound (ps := [(.int .u32)]) (rs := [(.int .i64)]) (pts := ptL) (fns := fns) (fgs := fgs) (fws := fws) (tys := tyTab) (main := fun k (x : Int) => bits_LeadingZeros32.f k x) ok mix tyOk trivial (fun k x => by kernel_rfl) (fun k => ⟨⟨bits_Len32.c k, trivial⟩, trivial, trivial⟩) k
end bits_LeadingZeros32

namespace nat_moved
def s0 : PSig := ⟨0, [(55, (.int .u32), false)], [(0, .val (.list (.int .u32))), (1, .val (.int .i64)), (5, .own 0), (12, .val (.int .i64)), (13, .val (.int .i64))]⟩
def fws : Nat → List (FuncId × FW) := fun _ => []
def ptL : List (Pt (TD [(.list (.int .u32))])) := [⟨0, s0, fun k (x : (List Int) × (List Int) × Int × Int × Int) => nat_moved.p0 k x.1 x.2.1 x.2.2.1 x.2.2.2.1 x.2.2.2.2⟩]
def fns : Nat → List (FuncId × FS) := fun _ => []
def fgs : Nat → List (FuncId × FG) := fun _ => []
def fs (k : Nat) : FS := ⟨[(.list (.int .u32)), (.int .i64)], [(.list (.int .u32))], fun (x : (List Int) × Int) => nat_moved.f k x.1 x.2⟩
theorem ok : FnOk Tryz.prog 179 43 Tryz.f179.results.toList (Tryz.f179.body.getD .skip) 2 := ⟨⟨Tryz.f179, by kernel_rfl, by kernel_rfl, by kernel_rfl, rfl, by kernel_rfl⟩, by kernel_rfl, by decide⟩
theorem c (k : Nat) : Contract Tryz.prog 179 (fs k) :=
  fn_sound (ps := [(.list (.int .u32)), (.int .i64)]) (rs := [(.list (.int .u32))]) (pts := ptL) (fns := fns) (fgs := fgs) (fws := fws) (tys := tyTab) (main := fun k (x : (List Int) × Int) => nat_moved.f k x.1 x.2) ok mix tyOk ⟨⟨rfl, fun _ => rfl, fun k x => by kernel_rfl⟩, trivial⟩ (fun k x => by kernel_rfl) (fun _ => ⟨trivial, trivial, trivial⟩) k
def fw (k : Nat) : FW := ⟨[(.list (.int .u32)), (.int .i64)], 55, (.int .u32), false, fun (x : (List Int) × Int) => nat_moved.f k x.1 x.2⟩
def ptW : List (Pt (List (Ty.D (.int .u32)))) := [⟨0, s0, fun k (x : (List Int) × (List Int) × Int × Int × Int) => nat_moved.p0 k x.1 x.2.1 x.2.2.1 x.2.2.2.1 x.2.2.2.2⟩]
theorem cw (k : Nat) : ContractW Tryz.prog 179 (fw k) :=
  fn_soundW (ps := [(.list (.int .u32)), (.int .i64)]) (e := 55) (t := (.int .u32)) (bx := false) (pts := ptW) (fns := fns) (fgs := fgs) (fws := fws) (tys := tyTab) (main := fun k (x : (List Int) × Int) => nat_moved.f k x.1 x.2) ok mix tyOk ⟨⟨rfl, fun _ => rfl, fun k x => by kernel_rfl⟩, trivial⟩ (fun k x => by kernel_rfl) (fun _ => ⟨trivial, trivial, trivial⟩) k
end nat_moved

namespace bits_Sub32
def fws : Nat → List (FuncId × FW) := fun _ => []
def ptL : List (Pt (TD [(.int .u32), (.int .u32)])) := []
def fns : Nat → List (FuncId × FS) := fun _ => []
def fgs : Nat → List (FuncId × FG) := fun _ => []
def fs (k : Nat) : FS := ⟨[(.int .u32), (.int .u32), (.int .u32)], [(.int .u32), (.int .u32)], fun (x : Int × Int × Int) => bits_Sub32.f k x.1 x.2.1 x.2.2⟩
theorem ok : FnOk Tryz.prog 174 25 Tryz.f174.results.toList (Tryz.f174.body.getD .skip) 3 := ⟨⟨Tryz.f174, by kernel_rfl, by kernel_rfl, by kernel_rfl, rfl, by kernel_rfl⟩, by kernel_rfl, by decide⟩
theorem c (k : Nat) : Contract Tryz.prog 174 (fs k) :=
  fn_sound (ps := [(.int .u32), (.int .u32), (.int .u32)]) (rs := [(.int .u32), (.int .u32)]) (pts := ptL) (fns := fns) (fgs := fgs) (fws := fws) (tys := tyTab) (main := fun k (x : Int × Int × Int) => bits_Sub32.f k x.1 x.2.1 x.2.2) ok mix tyOk trivial (fun k x => by kernel_rfl) (fun _ => ⟨trivial, trivial, trivial⟩) k
end bits_Sub32

namespace bits_Add32
def fws : Nat → List (FuncId × FW) := fun _ => []
def ptL : List (Pt (TD [(.int .u32), (.int .u32)])) := []
def fns : Nat → List (FuncId × FS) := fun _ => []
def fgs : Nat → List (FuncId × FG) := fun _ => []
def fs (k : Nat) : FS := ⟨[(.int .u32), (.int .u32), (.int .u32)], [(.int .u32), (.int .u32)], fun (x : Int × Int × Int) => bits_Add32.f k x.1 x.2.1 x.2.2⟩
theorem ok : FnOk Tryz.prog 153 22 Tryz.f153.results.toList (Tryz.f153.body.getD .skip) 3 := ⟨⟨Tryz.f153, by kernel_rfl, by kernel_rfl, by kernel_rfl, rfl, by kernel_rfl⟩, by kernel_rfl, by decide⟩
theorem c (k : Nat) : Contract Tryz.prog 153 (fs k) :=
  fn_sound (ps := [(.int .u32), (.int .u32), (.int .u32)]) (rs := [(.int .u32), (.int .u32)]) (pts := ptL) (fns := fns) (fgs := fgs) (fws := fws) (tys := tyTab) (main := fun k (x : Int × Int × Int) => bits_Add32.f k x.1 x.2.1 x.2.2) ok mix tyOk trivial (fun k x => by kernel_rfl) (fun _ => ⟨trivial, trivial, trivial⟩) k
end bits_Add32

namespace nat_digit
def s0 : PSig := ⟨1, [(55, (.int .u32), false)], [(0, .win 0), (1, .val (.list (.int .u32))), (5, .val (.int .i64)), (7, .val (.int .u64)), (8, .val (.int .u64))]⟩
def s11 : PSig := ⟨1, [(55, (.int .u32), false)], [(0, .win 0), (1, .val (.list (.int .u32))), (5, .val (.int .i64)), (7, .val (.int .u64)), (8, .val (.int .u64))]⟩
def s4 : PSig := ⟨1, [(55, (.int .u32), false)], [(0, .win 0), (1, .val (.list (.int .u32))), (5, .val (.int .i64)), (7, .val (.int .u64)), (9, .val (.int .u32)), (10, .val (.int .u64)), (82, .val (.int .i64)), (83, .val (.int .i64))]⟩
def s8 : PSig := ⟨1, [(55, (.int .u32), false)], [(0, .win 0), (1, .val (.list (.int .u32))), (5, .val (.int .i64)), (7, .val (.int .u64)), (13, .val (.int .u32)), (130, .val (.int .i64)), (131, .val (.int .i64))]⟩
def fws : Nat → List (FuncId × FW) := fun _ => []
def ptL : List (Pt (TD ([.win 55 (.int .u32), .val (.list (.int .u32))].flatMap PK.outs ++ [(.int .u32)]))) := [⟨0, s0, fun k (x : (List Int) × Nat × Nat × (List Int) × Int × Int × Int) => nat_digit.p0 k x.1 x.2.1 x.2.2.1 x.2.2.2.1 x.2.2.2.2.1 x.2.2.2.2.2.1 x.2.2.2.2.2.2⟩, ⟨11, s11, fun k (x : (List Int) × Nat × Nat × (List Int) × Int × Int × Int) => nat_digit.p11 k x.1 x.2.1 x.2.2.1 x.2.2.2.1 x.2.2.2.2.1 x.2.2.2.2.2.1 x.2.2.2.2.2.2⟩, ⟨4, s4, fun k (x : (List Int) × Nat × Nat × (List Int) × Int × Int × Int × Int × Int × Int) => nat_digit.p4 k x.1 x.2.1 x.2.2.1 x.2.2.2.1 x.2.2.2.2.1 x.2.2.2.2.2.1 x.2.2.2.2.2.2.1 x.2.2.2.2.2.2.2.1 x.2.2.2.2.2.2.2.2.1 x.2.2.2.2.2.2.2.2.2⟩, ⟨8, s8, fun k (x : (List Int) × Nat × Nat × (List Int) × Int × Int × Int × Int × Int) => nat_digit.p8 k x.1 x.2.1 x.2.2.1 x.2.2.2.1 x.2.2.2.2.1 x.2.2.2.2.2.1 x.2.2.2.2.2.2.1 x.2.2.2.2.2.2.2.1 x.2.2.2.2.2.2.2.2⟩]
def fns : Nat → List (FuncId × FS) := fun k => [(174, ⟨[(.int .u32), (.int .u32), (.int .u32)], [(.int .u32), (.int .u32)], fun (x : Int × Int × Int) => bits_Sub32.f k x.1 x.2.1 x.2.2⟩), (153, ⟨[(.int .u32), (.int .u32), (.int .u32)], [(.int .u32), (.int .u32)], fun (x : Int × Int × Int) => bits_Add32.f k x.1 x.2.1 x.2.2⟩)]
def fgs : Nat → List (FuncId × FG) := fun _ => []
def fg (k : Nat) : FG := ⟨[.win 55 (.int .u32), .val (.list (.int .u32))], [(.int .u32)], fun (x : (List Int) × Nat × Nat × (List Int)) => nat_digit.f k x.1 x.2.1 x.2.2.1 x.2.2.2⟩
theorem ok : FnOk Tryz.prog 180 160 Tryz.f180.results.toList (Tryz.f180.body.getD .skip) 2 := ⟨⟨Tryz.f180, by kernel_rfl, by kernel_rfl, by kernel_rfl, rfl, by kernel_rfl⟩, by kernel_rfl, by decide⟩
theorem c (k : Nat) : ContractG Tryz.prog 180 (fg k) :=
  fn_soundG (ps := [.win 55 (.int .u32), .val (.list (.int .u32))]) (rs := [(.int .u32)]) (pts := ptL) (fns := fns) (fgs := fgs) (fws := fws) (tys := tyTab) (main := fun k (x : (List Int) × Nat × Nat × (List Int)) => nat_digit.f k x.1 x.2.1 x.2.2.1 x.2.2.2) ok rfl mix tyOk ⟨⟨rfl, fun _ => rfl, fun k x => by kernel_rfl⟩, ⟨rfl, fun _ => rfl, fun k x => by kernel_rfl⟩, ⟨rfl, fun _ => rfl, fun k x => by kernel_rfl⟩, ⟨rfl, fun _ => rfl, fun k x => by kernel_rfl⟩, trivial⟩ (fun k x => by kernel_rfl) (fun k => ⟨⟨bits_Sub32.c k, bits_Add32.c k, trivial⟩, trivial, trivial⟩) k
end nat_digit

namespace nat_long
def s0 : PSig := ⟨0, [(55, (.int .u32), false), (55, (.int .u32), false)], [(6, .val (.int .i64)), (7, .val (.list (.int .u32))), (8, .own 0), (9, .val (.int .i64)), (10, .own 1), (11, .val (.int .i64))]⟩
def s4 : PSig := ⟨0, [(55, (.int .u32), false), (55, (.int .u32), false), (55, (.int .u32), false)], [(6, .val (.int .i64)), (8, .own 0), (10, .own 1), (12, .own 2), (60, .val (.int .i64)), (61, .val (.int .i64))]⟩
def fws : Nat → List (FuncId × FW) := fun k => [(179, ⟨[(.list (.int .u32)), (.int .i64)], 55, (.int .u32), false, fun (x : (List Int) × Int) => nat_moved.f k x.1 x.2⟩), (145, ⟨[(.list (.int .u32))], 55, (.int .u32), false, fun (x : (List Int)) => nat_own.f k x⟩)]
def ptL : List (Pt (TD [(.list (.int .u32)), (.list (.int .u32))])) := [⟨0, s0, fun k (x : (List Int) × (List Int) × Int × (List Int) × Int × Int) => nat_long.p0 k x.1 x.2.1 x.2.2.1 x.2.2.2.1 x.2.2.2.2.1 x.2.2.2.2.2⟩, ⟨4, s4, fun k (x : (List Int) × (List Int) × (List Int) × Int × Int × Int) => nat_long.p4 k x.1 x.2.1 x.2.2.1 x.2.2.2.1 x.2.2.2.2.1 x.2.2.2.2.2⟩]
def fns : Nat → List (FuncId × FS) := fun k => [(178, ⟨[(.int .u32)], [(.int .i64)], fun (x : Int) => bits_LeadingZeros32.f k x⟩)]
def fgs : Nat → List (FuncId × FG) := fun k => [(180, ⟨[.win 55 (.int .u32), .val (.list (.int .u32))], [(.int .u32)], fun (x : (List Int) × Nat × Nat × (List Int)) => nat_digit.f k x.1 x.2.1 x.2.2.1 x.2.2.2⟩)]
def fs (k : Nat) : FS := ⟨[(.list (.int .u32)), (.list (.int .u32))], [(.list (.int .u32)), (.list (.int .u32))], fun (x : (List Int) × (List Int)) => nat_long.f k x.1 x.2⟩
theorem ok : FnOk Tryz.prog 171 89 Tryz.f171.results.toList (Tryz.f171.body.getD .skip) 2 := ⟨⟨Tryz.f171, by kernel_rfl, by kernel_rfl, by kernel_rfl, rfl, by kernel_rfl⟩, by kernel_rfl, by decide⟩
theorem c (k : Nat) : Contract Tryz.prog 171 (fs k) :=
  fn_sound (ps := [(.list (.int .u32)), (.list (.int .u32))]) (rs := [(.list (.int .u32)), (.list (.int .u32))]) (pts := ptL) (fns := fns) (fgs := fgs) (fws := fws) (tys := tyTab) (main := fun k (x : (List Int) × (List Int)) => nat_long.f k x.1 x.2) ok mix tyOk ⟨⟨rfl, fun _ => rfl, fun k x => by kernel_rfl⟩, ⟨rfl, fun _ => rfl, fun k x => by kernel_rfl⟩, trivial⟩ (fun k x => by kernel_rfl) (fun k => ⟨⟨bits_LeadingZeros32.c k, trivial⟩, ⟨nat_digit.c k, trivial⟩, ⟨nat_moved.cw k, nat_own.cw k, trivial⟩⟩) k
end nat_long

namespace nat_Div
def fws : Nat → List (FuncId × FW) := fun _ => []
def ptL : List (Pt (TD [(.list (.int .u32)), (.list (.int .u32)), (.int .i64)])) := []
def fns : Nat → List (FuncId × FS) := fun k => [(132, ⟨[(.list (.int .u32))], [(.list (.int .u32))], fun (x : (List Int)) => nat_trim.f k x⟩), (92, ⟨[(.list (.int .u32)), (.list (.int .u32))], [(.int .i64)], fun (x : (List Int) × (List Int)) => nat_Cmp.f k x.1 x.2⟩), (145, ⟨[(.list (.int .u32))], [(.list (.int .u32))], fun (x : (List Int)) => nat_own.f k x⟩), (166, ⟨[(.list (.int .u32)), (.int .u32)], [(.list (.int .u32)), (.int .u32)], fun (x : (List Int) × Int) => nat_short.f k x.1 x.2⟩), (171, ⟨[(.list (.int .u32)), (.list (.int .u32))], [(.list (.int .u32)), (.list (.int .u32))], fun (x : (List Int) × (List Int)) => nat_long.f k x.1 x.2⟩)]
def fgs : Nat → List (FuncId × FG) := fun _ => []
def fs (k : Nat) : FS := ⟨[(.list (.int .u32)), (.list (.int .u32))], [(.list (.int .u32)), (.list (.int .u32)), (.int .i64)], fun (x : (List Int) × (List Int)) => nat_Div.f k x.1 x.2⟩
theorem ok : FnOk Tryz.prog 147 51 Tryz.f147.results.toList (Tryz.f147.body.getD .skip) 2 := ⟨⟨Tryz.f147, by kernel_rfl, by kernel_rfl, by kernel_rfl, rfl, by kernel_rfl⟩, by kernel_rfl, by decide⟩
theorem c (k : Nat) : Contract Tryz.prog 147 (fs k) :=
  fn_sound (ps := [(.list (.int .u32)), (.list (.int .u32))]) (rs := [(.list (.int .u32)), (.list (.int .u32)), (.int .i64)]) (pts := ptL) (fns := fns) (fgs := fgs) (fws := fws) (tys := tyTab) (main := fun k (x : (List Int) × (List Int)) => nat_Div.f k x.1 x.2) ok mix tyOk trivial (fun k x => by kernel_rfl) (fun k => ⟨⟨nat_trim.c k, nat_Cmp.c k, nat_own.c k, nat_short.c k, nat_long.c k, trivial⟩, trivial, trivial⟩) k
end nat_Div

namespace nat_Gcd
def s0 : PSig := ⟨0, [], [(0, .val (.list (.int .u32))), (1, .val (.list (.int .u32)))]⟩
def fws : Nat → List (FuncId × FW) := fun _ => []
def ptL : List (Pt (TD [(.list (.int .u32))])) := [⟨0, s0, fun k (x : (List Int) × (List Int)) => nat_Gcd.p0 k x.1 x.2⟩]
def fns : Nat → List (FuncId × FS) := fun k => [(145, ⟨[(.list (.int .u32))], [(.list (.int .u32))], fun (x : (List Int)) => nat_own.f k x⟩), (147, ⟨[(.list (.int .u32)), (.list (.int .u32))], [(.list (.int .u32)), (.list (.int .u32)), (.int .i64)], fun (x : (List Int) × (List Int)) => nat_Div.f k x.1 x.2⟩)]
def fgs : Nat → List (FuncId × FG) := fun _ => []
def fs (k : Nat) : FS := ⟨[(.list (.int .u32)), (.list (.int .u32))], [(.list (.int .u32))], fun (x : (List Int) × (List Int)) => nat_Gcd.f k x.1 x.2⟩
theorem ok : FnOk Tryz.prog 146 25 Tryz.f146.results.toList (Tryz.f146.body.getD .skip) 2 := ⟨⟨Tryz.f146, by kernel_rfl, by kernel_rfl, by kernel_rfl, rfl, by kernel_rfl⟩, by kernel_rfl, by decide⟩
theorem c (k : Nat) : Contract Tryz.prog 146 (fs k) :=
  fn_sound (ps := [(.list (.int .u32)), (.list (.int .u32))]) (rs := [(.list (.int .u32))]) (pts := ptL) (fns := fns) (fgs := fgs) (fws := fws) (tys := tyTab) (main := fun k (x : (List Int) × (List Int)) => nat_Gcd.f k x.1 x.2) ok mix tyOk ⟨⟨rfl, fun _ => rfl, fun k x => by kernel_rfl⟩, trivial⟩ (fun k x => by kernel_rfl) (fun k => ⟨⟨nat_own.c k, nat_Div.c k, trivial⟩, trivial, trivial⟩) k
end nat_Gcd

namespace whole_core
def s0 : PSig := ⟨0, [], [(0, .val (.list (.int .u32))), (3, .val (.int .i64))]⟩
def s9 : PSig := ⟨0, [], [(0, .val (.list (.int .u32))), (3, .val (.int .i64))]⟩
def fws : Nat → List (FuncId × FW) := fun _ => []
def ptL : List (Pt (TD [(.list (.int .u32))])) := [⟨0, s0, fun k (x : (List Int) × Int) => whole_core.p0 k x.1 x.2⟩, ⟨9, s9, fun k (x : (List Int) × Int) => whole_core.p9 k x.1 x.2⟩]
def fns : Nat → List (FuncId × FS) := fun _ => []
def fgs : Nat → List (FuncId × FG) := fun _ => []
def fs (k : Nat) : FS := ⟨[(.list (.int .u32))], [(.list (.int .u32))], fun (x : (List Int)) => whole_core.f k x⟩
theorem ok : FnOk Tryz.prog 133 22 Tryz.f133.results.toList (Tryz.f133.body.getD .skip) 1 := ⟨⟨Tryz.f133, by kernel_rfl, by kernel_rfl, by kernel_rfl, rfl, by kernel_rfl⟩, by kernel_rfl, by decide⟩
theorem c (k : Nat) : Contract Tryz.prog 133 (fs k) :=
  fn_sound (ps := [(.list (.int .u32))]) (rs := [(.list (.int .u32))]) (pts := ptL) (fns := fns) (fgs := fgs) (fws := fws) (tys := tyTab) (main := fun k (x : (List Int)) => whole_core.f k x) ok mix tyOk ⟨⟨rfl, fun _ => rfl, fun k x => by kernel_rfl⟩, ⟨rfl, fun _ => rfl, fun k x => by kernel_rfl⟩, trivial⟩ (fun k x => by kernel_rfl) (fun _ => ⟨trivial, trivial, trivial⟩) k
end whole_core

namespace whole_Sign
def fws : Nat → List (FuncId × FW) := fun _ => []
def ptL : List (Pt (TD [(.int .i64)])) := []
def fns : Nat → List (FuncId × FS) := fun k => [(133, ⟨[(.list (.int .u32))], [(.list (.int .u32))], fun (x : (List Int)) => whole_core.f k x⟩)]
def fgs : Nat → List (FuncId × FG) := fun _ => []
def fs (k : Nat) : FS := ⟨[(.st (.pair .bool (.list (.int .u32))))], [(.int .i64)], fun (x : (Bool × (List Int))) => whole_Sign.f k x⟩
theorem ok : FnOk Tryz.prog 94 12 Tryz.f94.results.toList (Tryz.f94.body.getD .skip) 1 := ⟨⟨Tryz.f94, by kernel_rfl, by kernel_rfl, by kernel_rfl, rfl, by kernel_rfl⟩, by kernel_rfl, by decide⟩
theorem c (k : Nat) : Contract Tryz.prog 94 (fs k) :=
  fn_sound (ps := [(.st (.pair .bool (.list (.int .u32))))]) (rs := [(.int .i64)]) (pts := ptL) (fns := fns) (fgs := fgs) (fws := fws) (tys := tyTab) (main := fun k (x : (Bool × (List Int))) => whole_Sign.f k x) ok mix tyOk trivial (fun k x => by kernel_rfl) (fun k => ⟨⟨whole_core.c k, trivial⟩, trivial, trivial⟩) k
end whole_Sign

namespace nat_Norm
def fws : Nat → List (FuncId × FW) := fun _ => []
def ptL : List (Pt (TD [(.list (.int .u32))])) := []
def fns : Nat → List (FuncId × FS) := fun k => [(145, ⟨[(.list (.int .u32))], [(.list (.int .u32))], fun (x : (List Int)) => nat_own.f k x⟩)]
def fgs : Nat → List (FuncId × FG) := fun _ => []
def fs (k : Nat) : FS := ⟨[(.list (.int .u32))], [(.list (.int .u32))], fun (x : (List Int)) => nat_Norm.f k x⟩
theorem ok : FnOk Tryz.prog 173 5 Tryz.f173.results.toList (Tryz.f173.body.getD .skip) 1 := ⟨⟨Tryz.f173, by kernel_rfl, by kernel_rfl, by kernel_rfl, rfl, by kernel_rfl⟩, by kernel_rfl, by decide⟩
theorem c (k : Nat) : Contract Tryz.prog 173 (fs k) :=
  fn_sound (ps := [(.list (.int .u32))]) (rs := [(.list (.int .u32))]) (pts := ptL) (fns := fns) (fgs := fgs) (fws := fws) (tys := tyTab) (main := fun k (x : (List Int)) => nat_Norm.f k x) ok mix tyOk trivial (fun k x => by kernel_rfl) (fun k => ⟨⟨nat_own.c k, trivial⟩, trivial, trivial⟩) k
end nat_Norm

namespace whole_signed
def s0 : PSig := ⟨0, [(25, (.st (.pair .bool (.list (.int .u32)))), true)], [(0, .val (.list (.int .u32))), (4, .ptr 0 []), (5, .val (.int .i64)), (10, .val (.list (.int .i64))), (11, .val (.int .i64)), (12, .val (.int .i64))]⟩
def fws : Nat → List (FuncId × FW) := fun _ => []
def ptL : List (Pt (TD [(.st (.pair .bool (.list (.int .u32))))])) := [⟨0, s0, fun k (x : (Bool × (List Int)) × (List Int) × Int × (List Int) × Int × Int) => whole_signed.p0 k x.1 x.2.1 x.2.2.1 x.2.2.2.1 x.2.2.2.2.1 x.2.2.2.2.2⟩]
def fns : Nat → List (FuncId × FS) := fun k => [(173, ⟨[(.list (.int .u32))], [(.list (.int .u32))], fun (x : (List Int)) => nat_Norm.f k x⟩)]
def fgs : Nat → List (FuncId × FG) := fun _ => []
def fs (k : Nat) : FS := ⟨[(.list (.int .u32)), (.list (.int .i64))], [(.st (.pair .bool (.list (.int .u32))))], fun (x : (List Int) × (List Int)) => whole_signed.f k x.1 x.2⟩
theorem ok : FnOk Tryz.prog 156 29 Tryz.f156.results.toList (Tryz.f156.body.getD .skip) 2 := ⟨⟨Tryz.f156, by kernel_rfl, by kernel_rfl, by kernel_rfl, rfl, by kernel_rfl⟩, by kernel_rfl, by decide⟩
theorem c (k : Nat) : Contract Tryz.prog 156 (fs k) :=
  fn_sound (ps := [(.list (.int .u32)), (.list (.int .i64))]) (rs := [(.st (.pair .bool (.list (.int .u32))))]) (pts := ptL) (fns := fns) (fgs := fgs) (fws := fws) (tys := tyTab) (main := fun k (x : (List Int) × (List Int)) => whole_signed.f k x.1 x.2) ok mix tyOk ⟨⟨rfl, fun _ => rfl, fun k x => by kernel_rfl⟩, trivial⟩ (fun k x => by kernel_rfl) (fun k => ⟨⟨nat_Norm.c k, trivial⟩, trivial, trivial⟩) k
end whole_signed

namespace whole_Norm
def fws : Nat → List (FuncId × FW) := fun _ => []
def ptL : List (Pt (TD [(.st (.pair .bool (.list (.int .u32))))])) := []
def fns : Nat → List (FuncId × FS) := fun k => [(94, ⟨[(.st (.pair .bool (.list (.int .u32))))], [(.int .i64)], fun (x : (Bool × (List Int))) => whole_Sign.f k x⟩), (156, ⟨[(.list (.int .u32)), (.list (.int .i64))], [(.st (.pair .bool (.list (.int .u32))))], fun (x : (List Int) × (List Int)) => whole_signed.f k x.1 x.2⟩)]
def fgs : Nat → List (FuncId × FG) := fun _ => []
def fs (k : Nat) : FS := ⟨[(.st (.pair .bool (.list (.int .u32))))], [(.st (.pair .bool (.list (.int .u32))))], fun (x : (Bool × (List Int))) => whole_Norm.f k x⟩
theorem ok : FnOk Tryz.prog 148 9 Tryz.f148.results.toList (Tryz.f148.body.getD .skip) 1 := ⟨⟨Tryz.f148, by kernel_rfl, by kernel_rfl, by kernel_rfl, rfl, by kernel_rfl⟩, by kernel_rfl, by decide⟩
theorem c (k : Nat) : Contract Tryz.prog 148 (fs k) :=
  fn_sound (ps := [(.st (.pair .bool (.list (.int .u32))))]) (rs := [(.st (.pair .bool (.list (.int .u32))))]) (pts := ptL) (fns := fns) (fgs := fgs) (fws := fws) (tys := tyTab) (main := fun k (x : (Bool × (List Int))) => whole_Norm.f k x) ok mix tyOk trivial (fun k x => by kernel_rfl) (fun k => ⟨⟨whole_Sign.c k, whole_signed.c k, trivial⟩, trivial, trivial⟩) k
end whole_Norm

namespace ratio_made
def fws : Nat → List (FuncId × FW) := fun _ => []
def ptL : List (Pt (TD [(.st (.pair (.st (.pair .bool (.list (.int .u32)))) (.list (.int .u32))))])) := []
def fns : Nat → List (FuncId × FS) := fun k => [(146, ⟨[(.list (.int .u32)), (.list (.int .u32))], [(.list (.int .u32))], fun (x : (List Int) × (List Int)) => nat_Gcd.f k x.1 x.2⟩), (147, ⟨[(.list (.int .u32)), (.list (.int .u32))], [(.list (.int .u32)), (.list (.int .u32)), (.int .i64)], fun (x : (List Int) × (List Int)) => nat_Div.f k x.1 x.2⟩), (148, ⟨[(.st (.pair .bool (.list (.int .u32))))], [(.st (.pair .bool (.list (.int .u32))))], fun (x : (Bool × (List Int))) => whole_Norm.f k x⟩)]
def fgs : Nat → List (FuncId × FG) := fun _ => []
def fs (k : Nat) : FS := ⟨[(.st (.pair .bool (.list (.int .u32)))), (.list (.int .u32))], [(.st (.pair (.st (.pair .bool (.list (.int .u32)))) (.list (.int .u32))))], fun (x : (Bool × (List Int)) × (List Int)) => ratio_made.f k x.1 x.2⟩
theorem ok : FnOk Tryz.prog 108 38 Tryz.f108.results.toList (Tryz.f108.body.getD .skip) 2 := ⟨⟨Tryz.f108, by kernel_rfl, by kernel_rfl, by kernel_rfl, rfl, by kernel_rfl⟩, by kernel_rfl, by decide⟩
theorem c (k : Nat) : Contract Tryz.prog 108 (fs k) :=
  fn_sound (ps := [(.st (.pair .bool (.list (.int .u32)))), (.list (.int .u32))]) (rs := [(.st (.pair (.st (.pair .bool (.list (.int .u32)))) (.list (.int .u32))))]) (pts := ptL) (fns := fns) (fgs := fgs) (fws := fws) (tys := tyTab) (main := fun k (x : (Bool × (List Int)) × (List Int)) => ratio_made.f k x.1 x.2) ok mix tyOk trivial (fun k x => by kernel_rfl) (fun k => ⟨⟨nat_Gcd.c k, nat_Div.c k, whole_Norm.c k, trivial⟩, trivial, trivial⟩) k
end ratio_made

namespace strings_trimLeftByte
def s0 : PSig := ⟨0, [], [(0, .val .str), (1, .val (.int .u8))]⟩
def s7 : PSig := ⟨0, [], [(0, .val .str)]⟩
def fws : Nat → List (FuncId × FW) := fun _ => []
def ptL : List (Pt (TD [.str])) := [⟨0, s0, fun k (x : ByteArray × Int) => strings_trimLeftByte.p0 k x.1 x.2⟩, ⟨7, s7, fun k (x : ByteArray) => strings_trimLeftByte.p7 k x⟩]
def fns : Nat → List (FuncId × FS) := fun _ => []
def fgs : Nat → List (FuncId × FG) := fun _ => []
def fs (k : Nat) : FS := ⟨[.str, (.int .u8)], [.str], fun (x : ByteArray × Int) => strings_trimLeftByte.f k x.1 x.2⟩
theorem ok : FnOk Tryz.prog 149 17 Tryz.f149.results.toList (Tryz.f149.body.getD .skip) 2 := ⟨⟨Tryz.f149, by kernel_rfl, by kernel_rfl, by kernel_rfl, rfl, by kernel_rfl⟩, by kernel_rfl, by decide⟩
theorem c (k : Nat) : Contract Tryz.prog 149 (fs k) :=
  fn_sound (ps := [.str, (.int .u8)]) (rs := [.str]) (pts := ptL) (fns := fns) (fgs := fgs) (fws := fws) (tys := tyTab) (main := fun k (x : ByteArray × Int) => strings_trimLeftByte.f k x.1 x.2) ok mix tyOk ⟨⟨rfl, fun _ => rfl, fun k x => by kernel_rfl⟩, ⟨rfl, fun _ => rfl, fun k x => by kernel_rfl⟩, trivial⟩ (fun k x => by kernel_rfl) (fun _ => ⟨trivial, trivial, trivial⟩) k
end strings_trimLeftByte

namespace strings_ContainsRune
def fws : Nat → List (FuncId × FW) := fun _ => []
def ptL : List (Pt (TD [.bool])) := []
def fns : Nat → List (FuncId × FS) := fun k => [(99, ⟨[.str, (.int .i32)], [(.int .i64)], fun (x : ByteArray × Int) => strings_IndexRune_h.f k x.1 x.2⟩)]
def fgs : Nat → List (FuncId × FG) := fun _ => []
def fs (k : Nat) : FS := ⟨[.str, (.int .i32)], [.bool], fun (x : ByteArray × Int) => strings_ContainsRune.f k x.1 x.2⟩
theorem ok : FnOk Tryz.prog 172 9 Tryz.f172.results.toList (Tryz.f172.body.getD .skip) 2 := ⟨⟨Tryz.f172, by kernel_rfl, by kernel_rfl, by kernel_rfl, rfl, by kernel_rfl⟩, by kernel_rfl, by decide⟩
theorem c (k : Nat) : Contract Tryz.prog 172 (fs k) :=
  fn_sound (ps := [.str, (.int .i32)]) (rs := [.bool]) (pts := ptL) (fns := fns) (fgs := fgs) (fws := fws) (tys := tyTab) (main := fun k (x : ByteArray × Int) => strings_ContainsRune.f k x.1 x.2) ok mix tyOk trivial (fun k x => by kernel_rfl) (fun k => ⟨⟨strings_IndexRune_h.c k, trivial⟩, trivial, trivial⟩) k
end strings_ContainsRune

namespace strings_trimLeftUnicode
def s0 : PSig := ⟨0, [], [(0, .val .str), (1, .val .str)]⟩
def s11 : PSig := ⟨0, [], [(0, .val .str)]⟩
def fws : Nat → List (FuncId × FW) := fun _ => []
def ptL : List (Pt (TD [.str])) := [⟨0, s0, fun k (x : ByteArray × ByteArray) => strings_trimLeftUnicode.p0 k x.1 x.2⟩, ⟨11, s11, fun k (x : ByteArray) => strings_trimLeftUnicode.p11 k x⟩]
def fns : Nat → List (FuncId × FS) := fun k => [(141, ⟨[.str], [(.int .i32), (.int .i64)], fun (x : ByteArray) => utf8_DecodeRuneInString.f k x⟩), (172, ⟨[.str, (.int .i32)], [.bool], fun (x : ByteArray × Int) => strings_ContainsRune.f k x.1 x.2⟩)]
def fgs : Nat → List (FuncId × FG) := fun _ => []
def fs (k : Nat) : FS := ⟨[.str, .str], [.str], fun (x : ByteArray × ByteArray) => strings_trimLeftUnicode.f k x.1 x.2⟩
theorem ok : FnOk Tryz.prog 151 23 Tryz.f151.results.toList (Tryz.f151.body.getD .skip) 2 := ⟨⟨Tryz.f151, by kernel_rfl, by kernel_rfl, by kernel_rfl, rfl, by kernel_rfl⟩, by kernel_rfl, by decide⟩
theorem c (k : Nat) : Contract Tryz.prog 151 (fs k) :=
  fn_sound (ps := [.str, .str]) (rs := [.str]) (pts := ptL) (fns := fns) (fgs := fgs) (fws := fws) (tys := tyTab) (main := fun k (x : ByteArray × ByteArray) => strings_trimLeftUnicode.f k x.1 x.2) ok mix tyOk ⟨⟨rfl, fun _ => rfl, fun k x => by kernel_rfl⟩, ⟨rfl, fun _ => rfl, fun k x => by kernel_rfl⟩, trivial⟩ (fun k x => by kernel_rfl) (fun k => ⟨⟨utf8_DecodeRuneInString.c k, strings_ContainsRune.c k, trivial⟩, trivial, trivial⟩) k
end strings_trimLeftUnicode

namespace strings_TrimLeft
def s5 : PSig := ⟨0, [], [(0, .val .str)]⟩
def s11 : PSig := ⟨0, [], [(0, .val .str), (1, .val .str)]⟩
def fws : Nat → List (FuncId × FW) := fun _ => []
def ptL : List (Pt (TD [.str])) := [⟨5, s5, fun k (x : ByteArray) => strings_TrimLeft.p5 k x⟩, ⟨11, s11, fun k (x : ByteArray × ByteArray) => strings_TrimLeft.p11 k x.1 x.2⟩]
def fns : Nat → List (FuncId × FS) := fun k => [(149, ⟨[.str, (.int .u8)], [.str], fun (x : ByteArray × Int) => strings_trimLeftByte.f k x.1 x.2⟩)]
def fgs : Nat → List (FuncId × FG) := fun _ => []
def fs (k : Nat) : FS := ⟨[.str, .str], [.str], fun (x : ByteArray × ByteArray) => strings_TrimLeft.f k x.1 x.2⟩
theorem ok : FnOk Tryz.prog 109 37 Tryz.f109.results.toList (Tryz.f109.body.getD .skip) 2 := ⟨⟨Tryz.f109, by kernel_rfl, by kernel_rfl, by kernel_rfl, rfl, by kernel_rfl⟩, by kernel_rfl, by decide⟩
theorem c (k : Nat) : Contract Tryz.prog 109 (fs k) :=
  fn_sound (ps := [.str, .str]) (rs := [.str]) (pts := ptL) (fns := fns) (fgs := fgs) (fws := fws) (tys := tyTab) (main := fun k (x : ByteArray × ByteArray) => strings_TrimLeft.f k x.1 x.2) ok mix tyOk ⟨⟨rfl, fun _ => rfl, fun k x => by kernel_rfl⟩, ⟨rfl, fun _ => rfl, fun k x => by kernel_rfl⟩, trivial⟩ (fun k x => by kernel_rfl) (fun k => ⟨⟨strings_trimLeftByte.c k, trivial⟩, trivial, trivial⟩) k
end strings_TrimLeft

namespace nat_Mul
def s0 : PSig := ⟨0, [(55, (.int .u32), false)], [(0, .val (.list (.int .u32))), (1, .val (.list (.int .u32))), (5, .own 0), (21, .val (.int .i64)), (22, .val (.int .i64))]⟩
def s4 : PSig := ⟨0, [(55, (.int .u32), false)], [(0, .val (.list (.int .u32))), (1, .val (.list (.int .u32))), (5, .own 0), (6, .val (.int .i64)), (7, .val (.int .u64)), (21, .val (.int .i64)), (22, .val (.int .i64)), (26, .val (.int .i64)), (27, .val (.int .i64))]⟩
def fws : Nat → List (FuncId × FW) := fun _ => []
def ptL : List (Pt (TD [(.list (.int .u32))])) := [⟨0, s0, fun k (x : (List Int) × (List Int) × (List Int) × Int × Int) => nat_Mul.p0 k x.1 x.2.1 x.2.2.1 x.2.2.2.1 x.2.2.2.2⟩, ⟨4, s4, fun k (x : (List Int) × (List Int) × (List Int) × Int × Int × Int × Int × Int × Int) => nat_Mul.p4 k x.1 x.2.1 x.2.2.1 x.2.2.2.1 x.2.2.2.2.1 x.2.2.2.2.2.1 x.2.2.2.2.2.2.1 x.2.2.2.2.2.2.2.1 x.2.2.2.2.2.2.2.2⟩]
def fns : Nat → List (FuncId × FS) := fun k => [(132, ⟨[(.list (.int .u32))], [(.list (.int .u32))], fun (x : (List Int)) => nat_trim.f k x⟩), (145, ⟨[(.list (.int .u32))], [(.list (.int .u32))], fun (x : (List Int)) => nat_own.f k x⟩)]
def fgs : Nat → List (FuncId × FG) := fun _ => []
def fs (k : Nat) : FS := ⟨[(.list (.int .u32)), (.list (.int .u32))], [(.list (.int .u32))], fun (x : (List Int) × (List Int)) => nat_Mul.f k x.1 x.2⟩
theorem ok : FnOk Tryz.prog 112 72 Tryz.f112.results.toList (Tryz.f112.body.getD .skip) 2 := ⟨⟨Tryz.f112, by kernel_rfl, by kernel_rfl, by kernel_rfl, rfl, by kernel_rfl⟩, by kernel_rfl, by decide⟩
theorem c (k : Nat) : Contract Tryz.prog 112 (fs k) :=
  fn_sound (ps := [(.list (.int .u32)), (.list (.int .u32))]) (rs := [(.list (.int .u32))]) (pts := ptL) (fns := fns) (fgs := fgs) (fws := fws) (tys := tyTab) (main := fun k (x : (List Int) × (List Int)) => nat_Mul.f k x.1 x.2) ok mix tyOk ⟨⟨rfl, fun _ => rfl, fun k x => by kernel_rfl⟩, ⟨rfl, fun _ => rfl, fun k x => by kernel_rfl⟩, trivial⟩ (fun k x => by kernel_rfl) (fun k => ⟨⟨nat_trim.c k, nat_own.c k, trivial⟩, trivial, trivial⟩) k
end nat_Mul

namespace nat_Pow
def s5 : PSig := ⟨0, [], []⟩
def s0 : PSig := ⟨0, [], [(1, .val (.int .i64)), (6, .val (.list (.int .u32))), (7, .val (.list (.int .u32)))]⟩
def s19 : PSig := ⟨0, [], [(1, .val (.int .i64)), (6, .val (.list (.int .u32))), (7, .val (.list (.int .u32)))]⟩
def s13 : PSig := ⟨0, [], [(1, .val (.int .i64)), (6, .val (.list (.int .u32))), (7, .val (.list (.int .u32)))]⟩
def fws : Nat → List (FuncId × FW) := fun _ => []
def ptL : List (Pt (TD [(.list (.int .u32)), (.int .i64)])) := [⟨5, s5, fun k (x : Unit) => nat_Pow.p5 k x⟩, ⟨0, s0, fun k (x : Int × (List Int) × (List Int)) => nat_Pow.p0 k x.1 x.2.1 x.2.2⟩, ⟨19, s19, fun k (x : Int × (List Int) × (List Int)) => nat_Pow.p19 k x.1 x.2.1 x.2.2⟩, ⟨13, s13, fun k (x : Int × (List Int) × (List Int)) => nat_Pow.p13 k x.1 x.2.1 x.2.2⟩]
def fns : Nat → List (FuncId × FS) := fun k => [(145, ⟨[(.list (.int .u32))], [(.list (.int .u32))], fun (x : (List Int)) => nat_own.f k x⟩), (112, ⟨[(.list (.int .u32)), (.list (.int .u32))], [(.list (.int .u32))], fun (x : (List Int) × (List Int)) => nat_Mul.f k x.1 x.2⟩)]
def fgs : Nat → List (FuncId × FG) := fun _ => []
def fs (k : Nat) : FS := ⟨[(.list (.int .u32)), (.int .i64)], [(.list (.int .u32)), (.int .i64)], fun (x : (List Int) × Int) => nat_Pow.f k x.1 x.2⟩
theorem ok : FnOk Tryz.prog 152 33 Tryz.f152.results.toList (Tryz.f152.body.getD .skip) 2 := ⟨⟨Tryz.f152, by kernel_rfl, by kernel_rfl, by kernel_rfl, rfl, by kernel_rfl⟩, by kernel_rfl, by decide⟩
theorem c (k : Nat) : Contract Tryz.prog 152 (fs k) :=
  fn_sound (ps := [(.list (.int .u32)), (.int .i64)]) (rs := [(.list (.int .u32)), (.int .i64)]) (pts := ptL) (fns := fns) (fgs := fgs) (fws := fws) (tys := tyTab) (main := fun k (x : (List Int) × Int) => nat_Pow.f k x.1 x.2) ok mix tyOk ⟨⟨rfl, fun _ => rfl, fun k x => by kernel_rfl⟩, ⟨rfl, fun _ => rfl, fun k x => by kernel_rfl⟩, ⟨rfl, fun _ => rfl, fun k x => by kernel_rfl⟩, ⟨rfl, fun _ => rfl, fun k x => by kernel_rfl⟩, trivial⟩ (fun k x => by kernel_rfl) (fun k => ⟨⟨nat_own.c k, nat_Mul.c k, trivial⟩, trivial, trivial⟩) k
end nat_Pow

namespace ratio_ten
def s0 : PSig := ⟨0, [], [(0, .val (.int .i64)), (3, .val (.list (.int .u32)))]⟩
def fws : Nat → List (FuncId × FW) := fun _ => []
def ptL : List (Pt (TD [(.list (.int .u32))])) := [⟨0, s0, fun k (x : Int × (List Int)) => ratio_ten.p0 k x.1 x.2⟩]
def fns : Nat → List (FuncId × FS) := fun k => [(152, ⟨[(.list (.int .u32)), (.int .i64)], [(.list (.int .u32)), (.int .i64)], fun (x : (List Int) × Int) => nat_Pow.f k x.1 x.2⟩), (112, ⟨[(.list (.int .u32)), (.list (.int .u32))], [(.list (.int .u32))], fun (x : (List Int) × (List Int)) => nat_Mul.f k x.1 x.2⟩)]
def fgs : Nat → List (FuncId × FG) := fun _ => []
def fs (k : Nat) : FS := ⟨[(.int .i64)], [(.list (.int .u32))], fun (x : Int) => ratio_ten.f k x⟩
theorem ok : FnOk Tryz.prog 110 24 Tryz.f110.results.toList (Tryz.f110.body.getD .skip) 1 := ⟨⟨Tryz.f110, by kernel_rfl, by kernel_rfl, by kernel_rfl, rfl, by kernel_rfl⟩, by kernel_rfl, by decide⟩
theorem c (k : Nat) : Contract Tryz.prog 110 (fs k) :=
  fn_sound (ps := [(.int .i64)]) (rs := [(.list (.int .u32))]) (pts := ptL) (fns := fns) (fgs := fgs) (fws := fws) (tys := tyTab) (main := fun k (x : Int) => ratio_ten.f k x) ok mix tyOk ⟨⟨rfl, fun _ => rfl, fun k x => by kernel_rfl⟩, trivial⟩ (fun k x => by kernel_rfl) (fun k => ⟨⟨nat_Pow.c k, nat_Mul.c k, trivial⟩, trivial, trivial⟩) k
end ratio_ten

namespace nat_Add
def s7 : PSig := ⟨0, [], [(0, .val (.list (.int .u32))), (1, .val (.list (.int .u32)))]⟩
def s0 : PSig := ⟨0, [(55, (.int .u32), false)], [(0, .val (.list (.int .u32))), (1, .val (.list (.int .u32))), (5, .own 0), (6, .val (.int .u32)), (21, .val (.int .i64)), (22, .val (.int .i64))]⟩
def s23 : PSig := ⟨0, [(55, (.int .u32), false)], [(0, .val (.list (.int .u32))), (1, .val (.list (.int .u32))), (5, .own 0), (6, .val (.int .u32)), (7, .val (.int .i64)), (8, .val (.int .u32)), (21, .val (.int .i64)), (22, .val (.int .i64))]⟩
def fws : Nat → List (FuncId × FW) := fun _ => []
def ptL : List (Pt (TD [(.list (.int .u32))])) := [⟨7, s7, fun k (x : (List Int) × (List Int)) => nat_Add.p7 k x.1 x.2⟩, ⟨0, s0, fun k (x : (List Int) × (List Int) × (List Int) × Int × Int × Int) => nat_Add.p0 k x.1 x.2.1 x.2.2.1 x.2.2.2.1 x.2.2.2.2.1 x.2.2.2.2.2⟩, ⟨23, s23, fun k (x : (List Int) × (List Int) × (List Int) × Int × Int × Int × Int × Int) => nat_Add.p23 k x.1 x.2.1 x.2.2.1 x.2.2.2.1 x.2.2.2.2.1 x.2.2.2.2.2.1 x.2.2.2.2.2.2.1 x.2.2.2.2.2.2.2⟩]
def fns : Nat → List (FuncId × FS) := fun k => [(153, ⟨[(.int .u32), (.int .u32), (.int .u32)], [(.int .u32), (.int .u32)], fun (x : Int × Int × Int) => bits_Add32.f k x.1 x.2.1 x.2.2⟩), (145, ⟨[(.list (.int .u32))], [(.list (.int .u32))], fun (x : (List Int)) => nat_own.f k x⟩)]
def fgs : Nat → List (FuncId × FG) := fun _ => []
def fs (k : Nat) : FS := ⟨[(.list (.int .u32)), (.list (.int .u32))], [(.list (.int .u32))], fun (x : (List Int) × (List Int)) => nat_Add.f k x.1 x.2⟩
theorem ok : FnOk Tryz.prog 111 54 Tryz.f111.results.toList (Tryz.f111.body.getD .skip) 2 := ⟨⟨Tryz.f111, by kernel_rfl, by kernel_rfl, by kernel_rfl, rfl, by kernel_rfl⟩, by kernel_rfl, by decide⟩
theorem c (k : Nat) : Contract Tryz.prog 111 (fs k) :=
  fn_sound (ps := [(.list (.int .u32)), (.list (.int .u32))]) (rs := [(.list (.int .u32))]) (pts := ptL) (fns := fns) (fgs := fgs) (fws := fws) (tys := tyTab) (main := fun k (x : (List Int) × (List Int)) => nat_Add.f k x.1 x.2) ok mix tyOk ⟨⟨rfl, fun _ => rfl, fun k x => by kernel_rfl⟩, ⟨rfl, fun _ => rfl, fun k x => by kernel_rfl⟩, ⟨rfl, fun _ => rfl, fun k x => by kernel_rfl⟩, trivial⟩ (fun k x => by kernel_rfl) (fun k => ⟨⟨bits_Add32.c k, nat_own.c k, trivial⟩, trivial, trivial⟩) k
end nat_Add

namespace ratio_Parse
def s15 : PSig := ⟨0, [(27, (.st (.pair (.st (.pair .bool (.list (.int .u32)))) (.list (.int .u32)))), true)], [(2, .ptr 0 [])]⟩
def s25 : PSig := ⟨0, [(27, (.st (.pair (.st (.pair .bool (.list (.int .u32)))) (.list (.int .u32)))), true)], [(2, .ptr 0 [])]⟩
def s27 : PSig := ⟨0, [(27, (.st (.pair (.st (.pair .bool (.list (.int .u32)))) (.list (.int .u32)))), true)], [(2, .ptr 0 []), (5, .val .bool), (14, .val .str), (16, .val (.list (.int .u32)))]⟩
def s33 : PSig := ⟨0, [(27, (.st (.pair (.st (.pair .bool (.list (.int .u32)))) (.list (.int .u32)))), true)], [(2, .ptr 0 []), (5, .val .bool), (14, .val .str), (16, .val (.list (.int .u32))), (18, .val .str)]⟩
def fws : Nat → List (FuncId × FW) := fun _ => []
def ptL : List (Pt (TD [(.st (.pair (.st (.pair .bool (.list (.int .u32)))) (.list (.int .u32)))), (.int .i64)])) := [⟨15, s15, fun k (x : ((Bool × (List Int)) × (List Int))) => ratio_Parse.p15 k x⟩, ⟨25, s25, fun k (x : ((Bool × (List Int)) × (List Int))) => ratio_Parse.p25 k x⟩, ⟨27, s27, fun k (x : ((Bool × (List Int)) × (List Int)) × Bool × ByteArray × (List Int)) => ratio_Parse.p27 k x.1 x.2.1 x.2.2.1 x.2.2.2⟩, ⟨33, s33, fun k (x : ((Bool × (List Int)) × (List Int)) × Bool × ByteArray × (List Int) × ByteArray) => ratio_Parse.p33 k x.1 x.2.1 x.2.2.1 x.2.2.2.1 x.2.2.2.2⟩]
def fns : Nat → List (FuncId × FS) := fun k => [(105, ⟨[.str, .str], [.str, .bool], fun (x : ByteArray × ByteArray) => strings_CutPrefix.f k x.1 x.2⟩), (106, ⟨[.str, .str], [.str, .str, .bool], fun (x : ByteArray × ByteArray) => strings_Cut.f k x.1 x.2⟩), (107, ⟨[.str, (.int .i64)], [(.list (.int .u32)), (.int .i64)], fun (x : ByteArray × Int) => nat_Parse.f k x.1 x.2⟩), (108, ⟨[(.st (.pair .bool (.list (.int .u32)))), (.list (.int .u32))], [(.st (.pair (.st (.pair .bool (.list (.int .u32)))) (.list (.int .u32))))], fun (x : (Bool × (List Int)) × (List Int)) => ratio_made.f k x.1 x.2⟩), (109, ⟨[.str, .str], [.str], fun (x : ByteArray × ByteArray) => strings_TrimLeft.f k x.1 x.2⟩), (110, ⟨[(.int .i64)], [(.list (.int .u32))], fun (x : Int) => ratio_ten.f k x⟩), (112, ⟨[(.list (.int .u32)), (.list (.int .u32))], [(.list (.int .u32))], fun (x : (List Int) × (List Int)) => nat_Mul.f k x.1 x.2⟩), (111, ⟨[(.list (.int .u32)), (.list (.int .u32))], [(.list (.int .u32))], fun (x : (List Int) × (List Int)) => nat_Add.f k x.1 x.2⟩)]
def fgs : Nat → List (FuncId × FG) := fun _ => []
def fs (k : Nat) : FS := ⟨[.str], [(.st (.pair (.st (.pair .bool (.list (.int .u32)))) (.list (.int .u32)))), (.int .i64)], fun (x : ByteArray) => ratio_Parse.f k x⟩
theorem ok : FnOk Tryz.prog 65 105 Tryz.f65.results.toList (Tryz.f65.body.getD .skip) 1 := ⟨⟨Tryz.f65, by kernel_rfl, by kernel_rfl, by kernel_rfl, rfl, by kernel_rfl⟩, by kernel_rfl, by decide⟩
theorem c (k : Nat) : Contract Tryz.prog 65 (fs k) :=
  fn_sound (ps := [.str]) (rs := [(.st (.pair (.st (.pair .bool (.list (.int .u32)))) (.list (.int .u32)))), (.int .i64)]) (pts := ptL) (fns := fns) (fgs := fgs) (fws := fws) (tys := tyTab) (main := fun k (x : ByteArray) => ratio_Parse.f k x) ok mix tyOk ⟨⟨rfl, fun _ => rfl, fun k x => by kernel_rfl⟩, ⟨rfl, fun _ => rfl, fun k x => by kernel_rfl⟩, ⟨rfl, fun _ => rfl, fun k x => by kernel_rfl⟩, ⟨rfl, fun _ => rfl, fun k x => by kernel_rfl⟩, trivial⟩ (fun k x => by kernel_rfl) (fun k => ⟨⟨strings_CutPrefix.c k, strings_Cut.c k, nat_Parse.c k, ratio_made.c k, strings_TrimLeft.c k, ratio_ten.c k, nat_Mul.c k, nat_Add.c k, trivial⟩, trivial, trivial⟩) k
end ratio_Parse

namespace nat_Bits
def fws : Nat → List (FuncId × FW) := fun _ => []
def ptL : List (Pt (TD [(.int .i64)])) := []
def fns : Nat → List (FuncId × FS) := fun k => [(132, ⟨[(.list (.int .u32))], [(.list (.int .u32))], fun (x : (List Int)) => nat_trim.f k x⟩), (158, ⟨[(.int .u32)], [(.int .i64)], fun (x : Int) => bits_Len32.f k x⟩)]
def fgs : Nat → List (FuncId × FG) := fun _ => []
def fs (k : Nat) : FS := ⟨[(.list (.int .u32))], [(.int .i64)], fun (x : (List Int)) => nat_Bits.f k x⟩
theorem ok : FnOk Tryz.prog 118 20 Tryz.f118.results.toList (Tryz.f118.body.getD .skip) 1 := ⟨⟨Tryz.f118, by kernel_rfl, by kernel_rfl, by kernel_rfl, rfl, by kernel_rfl⟩, by kernel_rfl, by decide⟩
theorem c (k : Nat) : Contract Tryz.prog 118 (fs k) :=
  fn_sound (ps := [(.list (.int .u32))]) (rs := [(.int .i64)]) (pts := ptL) (fns := fns) (fgs := fgs) (fws := fws) (tys := tyTab) (main := fun k (x : (List Int)) => nat_Bits.f k x) ok mix tyOk trivial (fun k x => by kernel_rfl) (fun k => ⟨⟨nat_trim.c k, bits_Len32.c k, trivial⟩, trivial, trivial⟩) k
end nat_Bits

namespace ratio_Norm
def fws : Nat → List (FuncId × FW) := fun _ => []
def ptL : List (Pt (TD [(.st (.pair (.st (.pair .bool (.list (.int .u32)))) (.list (.int .u32))))])) := []
def fns : Nat → List (FuncId × FS) := fun k => [(118, ⟨[(.list (.int .u32))], [(.int .i64)], fun (x : (List Int)) => nat_Bits.f k x⟩), (108, ⟨[(.st (.pair .bool (.list (.int .u32)))), (.list (.int .u32))], [(.st (.pair (.st (.pair .bool (.list (.int .u32)))) (.list (.int .u32))))], fun (x : (Bool × (List Int)) × (List Int)) => ratio_made.f k x.1 x.2⟩)]
def fgs : Nat → List (FuncId × FG) := fun _ => []
def fs (k : Nat) : FS := ⟨[(.st (.pair (.st (.pair .bool (.list (.int .u32)))) (.list (.int .u32))))], [(.st (.pair (.st (.pair .bool (.list (.int .u32)))) (.list (.int .u32))))], fun (x : ((Bool × (List Int)) × (List Int))) => ratio_Norm.f k x⟩
theorem ok : FnOk Tryz.prog 75 14 Tryz.f75.results.toList (Tryz.f75.body.getD .skip) 1 := ⟨⟨Tryz.f75, by kernel_rfl, by kernel_rfl, by kernel_rfl, rfl, by kernel_rfl⟩, by kernel_rfl, by decide⟩
theorem c (k : Nat) : Contract Tryz.prog 75 (fs k) :=
  fn_sound (ps := [(.st (.pair (.st (.pair .bool (.list (.int .u32)))) (.list (.int .u32))))]) (rs := [(.st (.pair (.st (.pair .bool (.list (.int .u32)))) (.list (.int .u32))))]) (pts := ptL) (fns := fns) (fgs := fgs) (fws := fws) (tys := tyTab) (main := fun k (x : ((Bool × (List Int)) × (List Int))) => ratio_Norm.f k x) ok mix tyOk trivial (fun k x => by kernel_rfl) (fun k => ⟨⟨nat_Bits.c k, ratio_made.c k, trivial⟩, trivial, trivial⟩) k
end ratio_Norm

namespace delta_Norm
def fws : Nat → List (FuncId × FW) := fun _ => []
def ptL : List (Pt (TD [(.st (.pair (.st (.pair (.st (.pair .bool (.list (.int .u32)))) (.list (.int .u32)))) (.st (.pair (.st (.pair .bool (.list (.int .u32)))) (.list (.int .u32))))))])) := []
def fns : Nat → List (FuncId × FS) := fun k => [(75, ⟨[(.st (.pair (.st (.pair .bool (.list (.int .u32)))) (.list (.int .u32))))], [(.st (.pair (.st (.pair .bool (.list (.int .u32)))) (.list (.int .u32))))], fun (x : ((Bool × (List Int)) × (List Int))) => ratio_Norm.f k x⟩)]
def fgs : Nat → List (FuncId × FG) := fun _ => []
def fs (k : Nat) : FS := ⟨[(.st (.pair (.st (.pair (.st (.pair .bool (.list (.int .u32)))) (.list (.int .u32)))) (.st (.pair (.st (.pair .bool (.list (.int .u32)))) (.list (.int .u32))))))], [(.st (.pair (.st (.pair (.st (.pair .bool (.list (.int .u32)))) (.list (.int .u32)))) (.st (.pair (.st (.pair .bool (.list (.int .u32)))) (.list (.int .u32))))))], fun (x : (((Bool × (List Int)) × (List Int)) × ((Bool × (List Int)) × (List Int)))) => delta_Norm.f k x⟩
theorem ok : FnOk Tryz.prog 34 10 Tryz.f34.results.toList (Tryz.f34.body.getD .skip) 1 := ⟨⟨Tryz.f34, by kernel_rfl, by kernel_rfl, by kernel_rfl, rfl, by kernel_rfl⟩, by kernel_rfl, by decide⟩
theorem c (k : Nat) : Contract Tryz.prog 34 (fs k) :=
  fn_sound (ps := [(.st (.pair (.st (.pair (.st (.pair .bool (.list (.int .u32)))) (.list (.int .u32)))) (.st (.pair (.st (.pair .bool (.list (.int .u32)))) (.list (.int .u32))))))]) (rs := [(.st (.pair (.st (.pair (.st (.pair .bool (.list (.int .u32)))) (.list (.int .u32)))) (.st (.pair (.st (.pair .bool (.list (.int .u32)))) (.list (.int .u32))))))]) (pts := ptL) (fns := fns) (fgs := fgs) (fws := fws) (tys := tyTab) (main := fun k (x : (((Bool × (List Int)) × (List Int)) × ((Bool × (List Int)) × (List Int)))) => delta_Norm.f k x) ok mix tyOk trivial (fun k x => by kernel_rfl) (fun k => ⟨⟨ratio_Norm.c k, trivial⟩, trivial, trivial⟩) k
end delta_Norm

namespace nat_Text
def s5 : PSig := ⟨0, [], []⟩
def s0 : PSig := ⟨0, [(5, (.int .u8), false)], [(1, .val (.int .i64)), (6, .own 0), (7, .val (.list (.int .u32)))]⟩
def s4 : PSig := ⟨0, [(5, (.int .u8), false), (5, (.int .u8), false)], [(6, .own 0), (9, .own 1), (43, .val (.int .i64)), (44, .val (.int .i64))]⟩
def fws : Nat → List (FuncId × FW) := fun _ => []
def ptL : List (Pt (TD [.str, (.int .i64)])) := [⟨5, s5, fun k (x : Unit) => nat_Text.p5 k x⟩, ⟨0, s0, fun k (x : (List Int) × Int × (List Int)) => nat_Text.p0 k x.1 x.2.1 x.2.2⟩, ⟨4, s4, fun k (x : (List Int) × (List Int) × Int × Int) => nat_Text.p4 k x.1 x.2.1 x.2.2.1 x.2.2.2⟩]
def fns : Nat → List (FuncId × FS) := fun k => [(145, ⟨[(.list (.int .u32))], [(.list (.int .u32))], fun (x : (List Int)) => nat_own.f k x⟩), (166, ⟨[(.list (.int .u32)), (.int .u32)], [(.list (.int .u32)), (.int .u32)], fun (x : (List Int) × Int) => nat_short.f k x.1 x.2⟩), (132, ⟨[(.list (.int .u32))], [(.list (.int .u32))], fun (x : (List Int)) => nat_trim.f k x⟩)]
def fgs : Nat → List (FuncId × FG) := fun _ => []
def fs (k : Nat) : FS := ⟨[(.list (.int .u32)), (.int .i64)], [.str, (.int .i64)], fun (x : (List Int) × Int) => nat_Text.f k x.1 x.2⟩
theorem ok : FnOk Tryz.prog 131 61 Tryz.f131.results.toList (Tryz.f131.body.getD .skip) 2 := ⟨⟨Tryz.f131, by kernel_rfl, by kernel_rfl, by kernel_rfl, rfl, by kernel_rfl⟩, by kernel_rfl, by decide⟩
theorem c (k : Nat) : Contract Tryz.prog 131 (fs k) :=
  fn_sound (ps := [(.list (.int .u32)), (.int .i64)]) (rs := [.str, (.int .i64)]) (pts := ptL) (fns := fns) (fgs := fgs) (fws := fws) (tys := tyTab) (main := fun k (x : (List Int) × Int) => nat_Text.f k x.1 x.2) ok mix tyOk ⟨⟨rfl, fun _ => rfl, fun k x => by kernel_rfl⟩, ⟨rfl, fun _ => rfl, fun k x => by kernel_rfl⟩, ⟨rfl, fun _ => rfl, fun k x => by kernel_rfl⟩, trivial⟩ (fun k x => by kernel_rfl) (fun k => ⟨⟨nat_own.c k, nat_short.c k, nat_trim.c k, trivial⟩, trivial, trivial⟩) k
end nat_Text

namespace whole_Text
def fws : Nat → List (FuncId × FW) := fun _ => []
def ptL : List (Pt (TD [.str])) := []
def fns : Nat → List (FuncId × FS) := fun k => [(131, ⟨[(.list (.int .u32)), (.int .i64)], [.str, (.int .i64)], fun (x : (List Int) × Int) => nat_Text.f k x.1 x.2⟩), (94, ⟨[(.st (.pair .bool (.list (.int .u32))))], [(.int .i64)], fun (x : (Bool × (List Int))) => whole_Sign.f k x⟩)]
def fgs : Nat → List (FuncId × FG) := fun _ => []
def fs (k : Nat) : FS := ⟨[(.st (.pair .bool (.list (.int .u32))))], [.str], fun (x : (Bool × (List Int))) => whole_Text.f k x⟩
theorem ok : FnOk Tryz.prog 91 17 Tryz.f91.results.toList (Tryz.f91.body.getD .skip) 1 := ⟨⟨Tryz.f91, by kernel_rfl, by kernel_rfl, by kernel_rfl, rfl, by kernel_rfl⟩, by kernel_rfl, by decide⟩
theorem c (k : Nat) : Contract Tryz.prog 91 (fs k) :=
  fn_sound (ps := [(.st (.pair .bool (.list (.int .u32))))]) (rs := [.str]) (pts := ptL) (fns := fns) (fgs := fgs) (fws := fws) (tys := tyTab) (main := fun k (x : (Bool × (List Int))) => whole_Text.f k x) ok mix tyOk trivial (fun k x => by kernel_rfl) (fun k => ⟨⟨nat_Text.c k, whole_Sign.c k, trivial⟩, trivial, trivial⟩) k
end whole_Text

namespace ratio_decimal
def fws : Nat → List (FuncId × FW) := fun _ => []
def ptL : List (Pt (TD [.str])) := []
def fns : Nat → List (FuncId × FS) := fun k => [(131, ⟨[(.list (.int .u32)), (.int .i64)], [.str, (.int .i64)], fun (x : (List Int) × Int) => nat_Text.f k x.1 x.2⟩)]
def fgs : Nat → List (FuncId × FG) := fun _ => []
def fs (k : Nat) : FS := ⟨[(.list (.int .u32))], [.str], fun (x : (List Int)) => ratio_decimal.f k x⟩
theorem ok : FnOk Tryz.prog 93 11 Tryz.f93.results.toList (Tryz.f93.body.getD .skip) 1 := ⟨⟨Tryz.f93, by kernel_rfl, by kernel_rfl, by kernel_rfl, rfl, by kernel_rfl⟩, by kernel_rfl, by decide⟩
theorem c (k : Nat) : Contract Tryz.prog 93 (fs k) :=
  fn_sound (ps := [(.list (.int .u32))]) (rs := [.str]) (pts := ptL) (fns := fns) (fgs := fgs) (fws := fws) (tys := tyTab) (main := fun k (x : (List Int)) => ratio_decimal.f k x) ok mix tyOk trivial (fun k x => by kernel_rfl) (fun k => ⟨⟨nat_Text.c k, trivial⟩, trivial, trivial⟩) k
end ratio_decimal

namespace ratio_Text
def s11 : PSig := ⟨0, [], [(3, .val .str)]⟩
def fws : Nat → List (FuncId × FW) := fun _ => []
def ptL : List (Pt (TD [.str])) := [⟨11, s11, fun k (x : ByteArray) => ratio_Text.p11 k x⟩]
def fns : Nat → List (FuncId × FS) := fun k => [(75, ⟨[(.st (.pair (.st (.pair .bool (.list (.int .u32)))) (.list (.int .u32))))], [(.st (.pair (.st (.pair .bool (.list (.int .u32)))) (.list (.int .u32))))], fun (x : ((Bool × (List Int)) × (List Int))) => ratio_Norm.f k x⟩), (91, ⟨[(.st (.pair .bool (.list (.int .u32))))], [.str], fun (x : (Bool × (List Int))) => whole_Text.f k x⟩), (92, ⟨[(.list (.int .u32)), (.list (.int .u32))], [(.int .i64)], fun (x : (List Int) × (List Int)) => nat_Cmp.f k x.1 x.2⟩), (93, ⟨[(.list (.int .u32))], [.str], fun (x : (List Int)) => ratio_decimal.f k x⟩)]
def fgs : Nat → List (FuncId × FG) := fun _ => []
def fs (k : Nat) : FS := ⟨[(.st (.pair (.st (.pair .bool (.list (.int .u32)))) (.list (.int .u32))))], [.str], fun (x : ((Bool × (List Int)) × (List Int))) => ratio_Text.f k x⟩
theorem ok : FnOk Tryz.prog 58 21 Tryz.f58.results.toList (Tryz.f58.body.getD .skip) 1 := ⟨⟨Tryz.f58, by kernel_rfl, by kernel_rfl, by kernel_rfl, rfl, by kernel_rfl⟩, by kernel_rfl, by decide⟩
theorem c (k : Nat) : Contract Tryz.prog 58 (fs k) :=
  fn_sound (ps := [(.st (.pair (.st (.pair .bool (.list (.int .u32)))) (.list (.int .u32))))]) (rs := [.str]) (pts := ptL) (fns := fns) (fgs := fgs) (fws := fws) (tys := tyTab) (main := fun k (x : ((Bool × (List Int)) × (List Int))) => ratio_Text.f k x) ok mix tyOk ⟨⟨rfl, fun _ => rfl, fun k x => by kernel_rfl⟩, trivial⟩ (fun k x => by kernel_rfl) (fun k => ⟨⟨ratio_Norm.c k, whole_Text.c k, nat_Cmp.c k, ratio_decimal.c k, trivial⟩, trivial, trivial⟩) k
end ratio_Text

namespace ratio_Sign
def fws : Nat → List (FuncId × FW) := fun _ => []
def ptL : List (Pt (TD [(.int .i64)])) := []
def fns : Nat → List (FuncId × FS) := fun k => [(75, ⟨[(.st (.pair (.st (.pair .bool (.list (.int .u32)))) (.list (.int .u32))))], [(.st (.pair (.st (.pair .bool (.list (.int .u32)))) (.list (.int .u32))))], fun (x : ((Bool × (List Int)) × (List Int))) => ratio_Norm.f k x⟩), (94, ⟨[(.st (.pair .bool (.list (.int .u32))))], [(.int .i64)], fun (x : (Bool × (List Int))) => whole_Sign.f k x⟩)]
def fgs : Nat → List (FuncId × FG) := fun _ => []
def fs (k : Nat) : FS := ⟨[(.st (.pair (.st (.pair .bool (.list (.int .u32)))) (.list (.int .u32))))], [(.int .i64)], fun (x : ((Bool × (List Int)) × (List Int))) => ratio_Sign.f k x⟩
theorem ok : FnOk Tryz.prog 59 7 Tryz.f59.results.toList (Tryz.f59.body.getD .skip) 1 := ⟨⟨Tryz.f59, by kernel_rfl, by kernel_rfl, by kernel_rfl, rfl, by kernel_rfl⟩, by kernel_rfl, by decide⟩
theorem c (k : Nat) : Contract Tryz.prog 59 (fs k) :=
  fn_sound (ps := [(.st (.pair (.st (.pair .bool (.list (.int .u32)))) (.list (.int .u32))))]) (rs := [(.int .i64)]) (pts := ptL) (fns := fns) (fgs := fgs) (fws := fws) (tys := tyTab) (main := fun k (x : ((Bool × (List Int)) × (List Int))) => ratio_Sign.f k x) ok mix tyOk trivial (fun k x => by kernel_rfl) (fun k => ⟨⟨ratio_Norm.c k, whole_Sign.c k, trivial⟩, trivial, trivial⟩) k
end ratio_Sign

namespace delta_Text
def s15 : PSig := ⟨0, [], [(3, .val .str)]⟩
def fws : Nat → List (FuncId × FW) := fun _ => []
def ptL : List (Pt (TD [.str])) := [⟨15, s15, fun k (x : ByteArray) => delta_Text.p15 k x⟩]
def fns : Nat → List (FuncId × FS) := fun k => [(58, ⟨[(.st (.pair (.st (.pair .bool (.list (.int .u32)))) (.list (.int .u32))))], [.str], fun (x : ((Bool × (List Int)) × (List Int))) => ratio_Text.f k x⟩), (59, ⟨[(.st (.pair (.st (.pair .bool (.list (.int .u32)))) (.list (.int .u32))))], [(.int .i64)], fun (x : ((Bool × (List Int)) × (List Int))) => ratio_Sign.f k x⟩)]
def fgs : Nat → List (FuncId × FG) := fun _ => []
def fs (k : Nat) : FS := ⟨[(.st (.pair (.st (.pair (.st (.pair .bool (.list (.int .u32)))) (.list (.int .u32)))) (.st (.pair (.st (.pair .bool (.list (.int .u32)))) (.list (.int .u32))))))], [.str], fun (x : (((Bool × (List Int)) × (List Int)) × ((Bool × (List Int)) × (List Int)))) => delta_Text.f k x⟩
theorem ok : FnOk Tryz.prog 15 28 Tryz.f15.results.toList (Tryz.f15.body.getD .skip) 1 := ⟨⟨Tryz.f15, by kernel_rfl, by kernel_rfl, by kernel_rfl, rfl, by kernel_rfl⟩, by kernel_rfl, by decide⟩
theorem c (k : Nat) : Contract Tryz.prog 15 (fs k) :=
  fn_sound (ps := [(.st (.pair (.st (.pair (.st (.pair .bool (.list (.int .u32)))) (.list (.int .u32)))) (.st (.pair (.st (.pair .bool (.list (.int .u32)))) (.list (.int .u32))))))]) (rs := [.str]) (pts := ptL) (fns := fns) (fgs := fgs) (fws := fws) (tys := tyTab) (main := fun k (x : (((Bool × (List Int)) × (List Int)) × ((Bool × (List Int)) × (List Int)))) => delta_Text.f k x) ok mix tyOk ⟨⟨rfl, fun _ => rfl, fun k x => by kernel_rfl⟩, trivial⟩ (fun k x => by kernel_rfl) (fun k => ⟨⟨ratio_Text.c k, ratio_Sign.c k, trivial⟩, trivial, trivial⟩) k
end delta_Text

namespace delta_Parse
def s19 : PSig := ⟨0, [(29, (.st (.pair (.st (.pair (.st (.pair .bool (.list (.int .u32)))) (.list (.int .u32)))) (.st (.pair (.st (.pair .bool (.list (.int .u32)))) (.list (.int .u32)))))), true), (29, (.st (.pair (.st (.pair (.st (.pair .bool (.list (.int .u32)))) (.list (.int .u32)))) (.st (.pair (.st (.pair .bool (.list (.int .u32)))) (.list (.int .u32)))))), true)], [(0, .val .str), (2, .ptr 0 []), (4, .ptr 1 []), (5, .val .str), (6, .val .str)]⟩
def s35 : PSig := ⟨0, [(29, (.st (.pair (.st (.pair (.st (.pair .bool (.list (.int .u32)))) (.list (.int .u32)))) (.st (.pair (.st (.pair .bool (.list (.int .u32)))) (.list (.int .u32)))))), true), (29, (.st (.pair (.st (.pair (.st (.pair .bool (.list (.int .u32)))) (.list (.int .u32)))) (.st (.pair (.st (.pair .bool (.list (.int .u32)))) (.list (.int .u32)))))), true)], [(0, .val .str), (2, .ptr 0 []), (4, .ptr 1 [])]⟩
def fws : Nat → List (FuncId × FW) := fun _ => []
def ptL : List (Pt (TD [(.st (.pair (.st (.pair (.st (.pair .bool (.list (.int .u32)))) (.list (.int .u32)))) (.st (.pair (.st (.pair .bool (.list (.int .u32)))) (.list (.int .u32)))))), (.int .i64)])) := [⟨19, s19, fun k (x : (((Bool × (List Int)) × (List Int)) × ((Bool × (List Int)) × (List Int))) × (((Bool × (List Int)) × (List Int)) × ((Bool × (List Int)) × (List Int))) × ByteArray × ByteArray × ByteArray) => delta_Parse.p19 k x.1 x.2.1 x.2.2.1 x.2.2.2.1 x.2.2.2.2⟩, ⟨35, s35, fun k (x : (((Bool × (List Int)) × (List Int)) × ((Bool × (List Int)) × (List Int))) × (((Bool × (List Int)) × (List Int)) × ((Bool × (List Int)) × (List Int))) × ByteArray) => delta_Parse.p35 k x.1 x.2.1 x.2.2⟩]
def fns : Nat → List (FuncId × FS) := fun k => [(62, ⟨[.str, .str], [.str, .bool], fun (x : ByteArray × ByteArray) => strings_CutSuffix.f k x.1 x.2⟩), (63, ⟨[.str, .str], [(.int .i64)], fun (x : ByteArray × ByteArray) => strings_LastIndexAny_h.f k x.1 x.2⟩), (64, ⟨[.str, .str], [.str], fun (x : ByteArray × ByteArray) => strings_TrimPrefix.f k x.1 x.2⟩), (65, ⟨[.str], [(.st (.pair (.st (.pair .bool (.list (.int .u32)))) (.list (.int .u32)))), (.int .i64)], fun (x : ByteArray) => ratio_Parse.f k x⟩), (34, ⟨[(.st (.pair (.st (.pair (.st (.pair .bool (.list (.int .u32)))) (.list (.int .u32)))) (.st (.pair (.st (.pair .bool (.list (.int .u32)))) (.list (.int .u32))))))], [(.st (.pair (.st (.pair (.st (.pair .bool (.list (.int .u32)))) (.list (.int .u32)))) (.st (.pair (.st (.pair .bool (.list (.int .u32)))) (.list (.int .u32))))))], fun (x : (((Bool × (List Int)) × (List Int)) × ((Bool × (List Int)) × (List Int)))) => delta_Norm.f k x⟩), (15, ⟨[(.st (.pair (.st (.pair (.st (.pair .bool (.list (.int .u32)))) (.list (.int .u32)))) (.st (.pair (.st (.pair .bool (.list (.int .u32)))) (.list (.int .u32))))))], [.str], fun (x : (((Bool × (List Int)) × (List Int)) × ((Bool × (List Int)) × (List Int)))) => delta_Text.f k x⟩)]
def fgs : Nat → List (FuncId × FG) := fun _ => []
def fs (k : Nat) : FS := ⟨[.str], [(.st (.pair (.st (.pair (.st (.pair .bool (.list (.int .u32)))) (.list (.int .u32)))) (.st (.pair (.st (.pair .bool (.list (.int .u32)))) (.list (.int .u32)))))), (.int .i64)], fun (x : ByteArray) => delta_Parse.f k x⟩
theorem ok : FnOk Tryz.prog 18 58 Tryz.f18.results.toList (Tryz.f18.body.getD .skip) 1 := ⟨⟨Tryz.f18, by kernel_rfl, by kernel_rfl, by kernel_rfl, rfl, by kernel_rfl⟩, by kernel_rfl, by decide⟩
theorem c (k : Nat) : Contract Tryz.prog 18 (fs k) :=
  fn_sound (ps := [.str]) (rs := [(.st (.pair (.st (.pair (.st (.pair .bool (.list (.int .u32)))) (.list (.int .u32)))) (.st (.pair (.st (.pair .bool (.list (.int .u32)))) (.list (.int .u32)))))), (.int .i64)]) (pts := ptL) (fns := fns) (fgs := fgs) (fws := fws) (tys := tyTab) (main := fun k (x : ByteArray) => delta_Parse.f k x) ok mix tyOk ⟨⟨rfl, fun _ => rfl, fun k x => by kernel_rfl⟩, ⟨rfl, fun _ => rfl, fun k x => by kernel_rfl⟩, trivial⟩ (fun k x => by kernel_rfl) (fun k => ⟨⟨strings_CutSuffix.c k, strings_LastIndexAny_h.c k, strings_TrimPrefix.c k, ratio_Parse.c k, delta_Norm.c k, delta_Text.c k, trivial⟩, trivial, trivial⟩) k
end delta_Parse

namespace ref01_digit
def s0 : PSig := ⟨0, [], [(0, .val (.int .u8)), (1, .val (.int .i64)), (5, .val (.int .i64))]⟩
def fws : Nat → List (FuncId × FW) := fun _ => []
def ptL : List (Pt (TD [(.int .i64)])) := [⟨0, s0, fun k (x : Int × Int × Int) => ref01_digit.p0 k x.1 x.2.1 x.2.2⟩]
def fns : Nat → List (FuncId × FS) := fun _ => []
def fgs : Nat → List (FuncId × FG) := fun _ => []
def fs (k : Nat) : FS := ⟨[(.int .u8), (.int .i64)], [(.int .i64)], fun (x : Int × Int) => ref01_digit.f k x.1 x.2⟩
theorem ok : FnOk Tryz.prog 154 16 Tryz.f154.results.toList (Tryz.f154.body.getD .skip) 2 := ⟨⟨Tryz.f154, by kernel_rfl, by kernel_rfl, by kernel_rfl, rfl, by kernel_rfl⟩, by kernel_rfl, by decide⟩
theorem c (k : Nat) : Contract Tryz.prog 154 (fs k) :=
  fn_sound (ps := [(.int .u8), (.int .i64)]) (rs := [(.int .i64)]) (pts := ptL) (fns := fns) (fgs := fgs) (fws := fws) (tys := tyTab) (main := fun k (x : Int × Int) => ref01_digit.f k x.1 x.2) ok mix tyOk ⟨⟨rfl, fun _ => rfl, fun k x => by kernel_rfl⟩, trivial⟩ (fun k x => by kernel_rfl) (fun _ => ⟨trivial, trivial, trivial⟩) k
end ref01_digit

namespace ref01_Norm
def s0 : PSig := ⟨0, [], [(0, .val (.list (.int .u32))), (3, .val (.int .i64))]⟩
def s9 : PSig := ⟨0, [], [(0, .val (.list (.int .u32))), (3, .val (.int .i64))]⟩
def s4 : PSig := ⟨0, [(55, (.int .u32), false)], [(0, .val (.list (.int .u32))), (3, .val (.int .i64)), (4, .own 0), (5, .val (.int .i64))]⟩
def fws : Nat → List (FuncId × FW) := fun _ => []
def ptL : List (Pt (TD [(.list (.int .u32))])) := [⟨0, s0, fun k (x : (List Int) × Int) => ref01_Norm.p0 k x.1 x.2⟩, ⟨9, s9, fun k (x : (List Int) × Int) => ref01_Norm.p9 k x.1 x.2⟩, ⟨4, s4, fun k (x : (List Int) × (List Int) × Int × Int) => ref01_Norm.p4 k x.1 x.2.1 x.2.2.1 x.2.2.2⟩]
def fns : Nat → List (FuncId × FS) := fun _ => []
def fgs : Nat → List (FuncId × FG) := fun _ => []
def fs (k : Nat) : FS := ⟨[(.list (.int .u32))], [(.list (.int .u32))], fun (x : (List Int)) => ref01_Norm.f k x⟩
theorem ok : FnOk Tryz.prog 120 35 Tryz.f120.results.toList (Tryz.f120.body.getD .skip) 1 := ⟨⟨Tryz.f120, by kernel_rfl, by kernel_rfl, by kernel_rfl, rfl, by kernel_rfl⟩, by kernel_rfl, by decide⟩
theorem c (k : Nat) : Contract Tryz.prog 120 (fs k) :=
  fn_sound (ps := [(.list (.int .u32))]) (rs := [(.list (.int .u32))]) (pts := ptL) (fns := fns) (fgs := fgs) (fws := fws) (tys := tyTab) (main := fun k (x : (List Int)) => ref01_Norm.f k x) ok mix tyOk ⟨⟨rfl, fun _ => rfl, fun k x => by kernel_rfl⟩, ⟨rfl, fun _ => rfl, fun k x => by kernel_rfl⟩, ⟨rfl, fun _ => rfl, fun k x => by kernel_rfl⟩, trivial⟩ (fun k x => by kernel_rfl) (fun _ => ⟨trivial, trivial, trivial⟩) k
end ref01_Norm

namespace ref01_Mul
def s0 : PSig := ⟨0, [(55, (.int .u32), false)], [(0, .val (.list (.int .u32))), (1, .val (.list (.int .u32))), (5, .own 0), (6, .val (.int .i64))]⟩
def s4 : PSig := ⟨0, [(55, (.int .u32), false)], [(0, .val (.list (.int .u32))), (1, .val (.list (.int .u32))), (5, .own 0), (6, .val (.int .i64)), (7, .val (.int .u64)), (8, .val (.int .i64))]⟩
def fws : Nat → List (FuncId × FW) := fun _ => []
def ptL : List (Pt (TD [(.list (.int .u32))])) := [⟨0, s0, fun k (x : (List Int) × (List Int) × (List Int) × Int) => ref01_Mul.p0 k x.1 x.2.1 x.2.2.1 x.2.2.2⟩, ⟨4, s4, fun k (x : (List Int) × (List Int) × (List Int) × Int × Int × Int) => ref01_Mul.p4 k x.1 x.2.1 x.2.2.1 x.2.2.2.1 x.2.2.2.2.1 x.2.2.2.2.2⟩]
def fns : Nat → List (FuncId × FS) := fun k => [(120, ⟨[(.list (.int .u32))], [(.list (.int .u32))], fun (x : (List Int)) => ref01_Norm.f k x⟩)]
def fgs : Nat → List (FuncId × FG) := fun _ => []
def fs (k : Nat) : FS := ⟨[(.list (.int .u32)), (.list (.int .u32))], [(.list (.int .u32))], fun (x : (List Int) × (List Int)) => ref01_Mul.f k x.1 x.2⟩
theorem ok : FnOk Tryz.prog 87 68 Tryz.f87.results.toList (Tryz.f87.body.getD .skip) 2 := ⟨⟨Tryz.f87, by kernel_rfl, by kernel_rfl, by kernel_rfl, rfl, by kernel_rfl⟩, by kernel_rfl, by decide⟩
theorem c (k : Nat) : Contract Tryz.prog 87 (fs k) :=
  fn_sound (ps := [(.list (.int .u32)), (.list (.int .u32))]) (rs := [(.list (.int .u32))]) (pts := ptL) (fns := fns) (fgs := fgs) (fws := fws) (tys := tyTab) (main := fun k (x : (List Int) × (List Int)) => ref01_Mul.f k x.1 x.2) ok mix tyOk ⟨⟨rfl, fun _ => rfl, fun k x => by kernel_rfl⟩, ⟨rfl, fun _ => rfl, fun k x => by kernel_rfl⟩, trivial⟩ (fun k x => by kernel_rfl) (fun k => ⟨⟨ref01_Norm.c k, trivial⟩, trivial, trivial⟩) k
end ref01_Mul

namespace ref01_at
def fws : Nat → List (FuncId × FW) := fun _ => []
def ptL : List (Pt (TD [(.int .u64)])) := []
def fns : Nat → List (FuncId × FS) := fun _ => []
def fgs : Nat → List (FuncId × FG) := fun _ => []
def fs (k : Nat) : FS := ⟨[(.list (.int .u32)), (.int .i64)], [(.int .u64)], fun (x : (List Int) × Int) => ref01_at.f k x.1 x.2⟩
theorem ok : FnOk Tryz.prog 155 14 Tryz.f155.results.toList (Tryz.f155.body.getD .skip) 2 := ⟨⟨Tryz.f155, by kernel_rfl, by kernel_rfl, by kernel_rfl, rfl, by kernel_rfl⟩, by kernel_rfl, by decide⟩
theorem c (k : Nat) : Contract Tryz.prog 155 (fs k) :=
  fn_sound (ps := [(.list (.int .u32)), (.int .i64)]) (rs := [(.int .u64)]) (pts := ptL) (fns := fns) (fgs := fgs) (fws := fws) (tys := tyTab) (main := fun k (x : (List Int) × Int) => ref01_at.f k x.1 x.2) ok mix tyOk trivial (fun k x => by kernel_rfl) (fun _ => ⟨trivial, trivial, trivial⟩) k
end ref01_at

namespace ref01_Add
def s9 : PSig := ⟨0, [], [(0, .val (.list (.int .u32))), (1, .val (.list (.int .u32))), (5, .val (.int .i64))]⟩
def s0 : PSig := ⟨0, [(55, (.int .u32), false)], [(0, .val (.list (.int .u32))), (1, .val (.list (.int .u32))), (5, .val (.int .i64)), (6, .own 0), (7, .val (.int .u64)), (8, .val (.int .i64))]⟩
def fws : Nat → List (FuncId × FW) := fun _ => []
def ptL : List (Pt (TD [(.list (.int .u32))])) := [⟨9, s9, fun k (x : (List Int) × (List Int) × Int) => ref01_Add.p9 k x.1 x.2.1 x.2.2⟩, ⟨0, s0, fun k (x : (List Int) × (List Int) × (List Int) × Int × Int × Int) => ref01_Add.p0 k x.1 x.2.1 x.2.2.1 x.2.2.2.1 x.2.2.2.2.1 x.2.2.2.2.2⟩]
def fns : Nat → List (FuncId × FS) := fun k => [(155, ⟨[(.list (.int .u32)), (.int .i64)], [(.int .u64)], fun (x : (List Int) × Int) => ref01_at.f k x.1 x.2⟩), (120, ⟨[(.list (.int .u32))], [(.list (.int .u32))], fun (x : (List Int)) => ref01_Norm.f k x⟩)]
def fgs : Nat → List (FuncId × FG) := fun _ => []
def fs (k : Nat) : FS := ⟨[(.list (.int .u32)), (.list (.int .u32))], [(.list (.int .u32))], fun (x : (List Int) × (List Int)) => ref01_Add.f k x.1 x.2⟩
theorem ok : FnOk Tryz.prog 114 44 Tryz.f114.results.toList (Tryz.f114.body.getD .skip) 2 := ⟨⟨Tryz.f114, by kernel_rfl, by kernel_rfl, by kernel_rfl, rfl, by kernel_rfl⟩, by kernel_rfl, by decide⟩
theorem c (k : Nat) : Contract Tryz.prog 114 (fs k) :=
  fn_sound (ps := [(.list (.int .u32)), (.list (.int .u32))]) (rs := [(.list (.int .u32))]) (pts := ptL) (fns := fns) (fgs := fgs) (fws := fws) (tys := tyTab) (main := fun k (x : (List Int) × (List Int)) => ref01_Add.f k x.1 x.2) ok mix tyOk ⟨⟨rfl, fun _ => rfl, fun k x => by kernel_rfl⟩, ⟨rfl, fun _ => rfl, fun k x => by kernel_rfl⟩, trivial⟩ (fun k x => by kernel_rfl) (fun k => ⟨⟨ref01_at.c k, ref01_Norm.c k, trivial⟩, trivial, trivial⟩) k
end ref01_Add

namespace ref01_Parse
def s5 : PSig := ⟨0, [], []⟩
def s9 : PSig := ⟨0, [], []⟩
def s11 : PSig := ⟨0, [], [(0, .val .str), (1, .val (.int .i64))]⟩
def s0 : PSig := ⟨0, [], [(0, .val .str), (1, .val (.int .i64)), (6, .val (.list (.int .u32))), (7, .val (.int .i64))]⟩
def fws : Nat → List (FuncId × FW) := fun _ => []
def ptL : List (Pt (TD [(.list (.int .u32)), (.int .i64)])) := [⟨5, s5, fun k (x : Unit) => ref01_Parse.p5 k x⟩, ⟨9, s9, fun k (x : Unit) => ref01_Parse.p9 k x⟩, ⟨11, s11, fun k (x : ByteArray × Int) => ref01_Parse.p11 k x.1 x.2⟩, ⟨0, s0, fun k (x : ByteArray × Int × (List Int) × Int) => ref01_Parse.p0 k x.1 x.2.1 x.2.2.1 x.2.2.2⟩]
def fns : Nat → List (FuncId × FS) := fun k => [(154, ⟨[(.int .u8), (.int .i64)], [(.int .i64)], fun (x : Int × Int) => ref01_digit.f k x.1 x.2⟩), (87, ⟨[(.list (.int .u32)), (.list (.int .u32))], [(.list (.int .u32))], fun (x : (List Int) × (List Int)) => ref01_Mul.f k x.1 x.2⟩), (114, ⟨[(.list (.int .u32)), (.list (.int .u32))], [(.list (.int .u32))], fun (x : (List Int) × (List Int)) => ref01_Add.f k x.1 x.2⟩)]
def fgs : Nat → List (FuncId × FG) := fun _ => []
def fs (k : Nat) : FS := ⟨[.str, (.int .i64)], [(.list (.int .u32)), (.int .i64)], fun (x : ByteArray × Int) => ref01_Parse.f k x.1 x.2⟩
theorem ok : FnOk Tryz.prog 113 52 Tryz.f113.results.toList (Tryz.f113.body.getD .skip) 2 := ⟨⟨Tryz.f113, by kernel_rfl, by kernel_rfl, by kernel_rfl, rfl, by kernel_rfl⟩, by kernel_rfl, by decide⟩
theorem c (k : Nat) : Contract Tryz.prog 113 (fs k) :=
  fn_sound (ps := [.str, (.int .i64)]) (rs := [(.list (.int .u32)), (.int .i64)]) (pts := ptL) (fns := fns) (fgs := fgs) (fws := fws) (tys := tyTab) (main := fun k (x : ByteArray × Int) => ref01_Parse.f k x.1 x.2) ok mix tyOk ⟨⟨rfl, fun _ => rfl, fun k x => by kernel_rfl⟩, ⟨rfl, fun _ => rfl, fun k x => by kernel_rfl⟩, ⟨rfl, fun _ => rfl, fun k x => by kernel_rfl⟩, ⟨rfl, fun _ => rfl, fun k x => by kernel_rfl⟩, trivial⟩ (fun k x => by kernel_rfl) (fun k => ⟨⟨ref01_digit.c k, ref01_Mul.c k, ref01_Add.c k, trivial⟩, trivial, trivial⟩) k
end ref01_Parse

namespace ref02_made
def fws : Nat → List (FuncId × FW) := fun _ => []
def ptL : List (Pt (TD [(.st (.pair .bool (.list (.int .u32))))])) := []
def fns : Nat → List (FuncId × FS) := fun k => [(120, ⟨[(.list (.int .u32))], [(.list (.int .u32))], fun (x : (List Int)) => ref01_Norm.f k x⟩)]
def fgs : Nat → List (FuncId × FG) := fun _ => []
def fs (k : Nat) : FS := ⟨[.bool, (.list (.int .u32))], [(.st (.pair .bool (.list (.int .u32))))], fun (x : Bool × (List Int)) => ref02_made.f k x.1 x.2⟩
theorem ok : FnOk Tryz.prog 127 16 Tryz.f127.results.toList (Tryz.f127.body.getD .skip) 2 := ⟨⟨Tryz.f127, by kernel_rfl, by kernel_rfl, by kernel_rfl, rfl, by kernel_rfl⟩, by kernel_rfl, by decide⟩
theorem c (k : Nat) : Contract Tryz.prog 127 (fs k) :=
  fn_sound (ps := [.bool, (.list (.int .u32))]) (rs := [(.st (.pair .bool (.list (.int .u32))))]) (pts := ptL) (fns := fns) (fgs := fgs) (fws := fws) (tys := tyTab) (main := fun k (x : Bool × (List Int)) => ref02_made.f k x.1 x.2) ok mix tyOk trivial (fun k x => by kernel_rfl) (fun k => ⟨⟨ref01_Norm.c k, trivial⟩, trivial, trivial⟩) k
end ref02_made

namespace ref02_Norm
def fws : Nat → List (FuncId × FW) := fun _ => []
def ptL : List (Pt (TD [(.st (.pair .bool (.list (.int .u32))))])) := []
def fns : Nat → List (FuncId × FS) := fun k => [(127, ⟨[.bool, (.list (.int .u32))], [(.st (.pair .bool (.list (.int .u32))))], fun (x : Bool × (List Int)) => ref02_made.f k x.1 x.2⟩)]
def fgs : Nat → List (FuncId × FG) := fun _ => []
def fs (k : Nat) : FS := ⟨[(.st (.pair .bool (.list (.int .u32))))], [(.st (.pair .bool (.list (.int .u32))))], fun (x : (Bool × (List Int))) => ref02_Norm.f k x⟩
theorem ok : FnOk Tryz.prog 119 8 Tryz.f119.results.toList (Tryz.f119.body.getD .skip) 1 := ⟨⟨Tryz.f119, by kernel_rfl, by kernel_rfl, by kernel_rfl, rfl, by kernel_rfl⟩, by kernel_rfl, by decide⟩
theorem c (k : Nat) : Contract Tryz.prog 119 (fs k) :=
  fn_sound (ps := [(.st (.pair .bool (.list (.int .u32))))]) (rs := [(.st (.pair .bool (.list (.int .u32))))]) (pts := ptL) (fns := fns) (fgs := fgs) (fws := fws) (tys := tyTab) (main := fun k (x : (Bool × (List Int))) => ref02_Norm.f k x) ok mix tyOk trivial (fun k x => by kernel_rfl) (fun k => ⟨⟨ref02_made.c k, trivial⟩, trivial, trivial⟩) k
end ref02_Norm

namespace ref01_Cmp
def s9 : PSig := ⟨0, [], [(0, .val (.list (.int .u32))), (1, .val (.list (.int .u32))), (5, .val (.int .i64))]⟩
def s0 : PSig := ⟨0, [], [(0, .val (.list (.int .u32))), (1, .val (.list (.int .u32))), (6, .val (.int .i64))]⟩
def fws : Nat → List (FuncId × FW) := fun _ => []
def ptL : List (Pt (TD [(.int .i64)])) := [⟨9, s9, fun k (x : (List Int) × (List Int) × Int) => ref01_Cmp.p9 k x.1 x.2.1 x.2.2⟩, ⟨0, s0, fun k (x : (List Int) × (List Int) × Int) => ref01_Cmp.p0 k x.1 x.2.1 x.2.2⟩]
def fns : Nat → List (FuncId × FS) := fun k => [(155, ⟨[(.list (.int .u32)), (.int .i64)], [(.int .u64)], fun (x : (List Int) × Int) => ref01_at.f k x.1 x.2⟩)]
def fgs : Nat → List (FuncId × FG) := fun _ => []
def fs (k : Nat) : FS := ⟨[(.list (.int .u32)), (.list (.int .u32))], [(.int .i64)], fun (x : (List Int) × (List Int)) => ref01_Cmp.f k x.1 x.2⟩
theorem ok : FnOk Tryz.prog 129 35 Tryz.f129.results.toList (Tryz.f129.body.getD .skip) 2 := ⟨⟨Tryz.f129, by kernel_rfl, by kernel_rfl, by kernel_rfl, rfl, by kernel_rfl⟩, by kernel_rfl, by decide⟩
theorem c (k : Nat) : Contract Tryz.prog 129 (fs k) :=
  fn_sound (ps := [(.list (.int .u32)), (.list (.int .u32))]) (rs := [(.int .i64)]) (pts := ptL) (fns := fns) (fgs := fgs) (fws := fws) (tys := tyTab) (main := fun k (x : (List Int) × (List Int)) => ref01_Cmp.f k x.1 x.2) ok mix tyOk ⟨⟨rfl, fun _ => rfl, fun k x => by kernel_rfl⟩, ⟨rfl, fun _ => rfl, fun k x => by kernel_rfl⟩, trivial⟩ (fun k x => by kernel_rfl) (fun k => ⟨⟨ref01_at.c k, trivial⟩, trivial, trivial⟩) k
end ref01_Cmp

namespace ref01_Bit
def fws : Nat → List (FuncId × FW) := fun _ => []
def ptL : List (Pt (TD [.bool])) := []
def fns : Nat → List (FuncId × FS) := fun _ => []
def fgs : Nat → List (FuncId × FG) := fun _ => []
def fs (k : Nat) : FS := ⟨[(.list (.int .u32)), (.int .i64)], [.bool], fun (x : (List Int) × Int) => ref01_Bit.f k x.1 x.2⟩
theorem ok : FnOk Tryz.prog 159 27 Tryz.f159.results.toList (Tryz.f159.body.getD .skip) 2 := ⟨⟨Tryz.f159, by kernel_rfl, by kernel_rfl, by kernel_rfl, rfl, by kernel_rfl⟩, by kernel_rfl, by decide⟩
theorem c (k : Nat) : Contract Tryz.prog 159 (fs k) :=
  fn_sound (ps := [(.list (.int .u32)), (.int .i64)]) (rs := [.bool]) (pts := ptL) (fns := fns) (fgs := fgs) (fws := fws) (tys := tyTab) (main := fun k (x : (List Int) × Int) => ref01_Bit.f k x.1 x.2) ok mix tyOk trivial (fun k x => by kernel_rfl) (fun _ => ⟨trivial, trivial, trivial⟩) k
end ref01_Bit

namespace ref01_Shift
def s5 : PSig := ⟨0, [], []⟩
def s17 : PSig := ⟨0, [], [(0, .val (.list (.int .u32))), (1, .val (.int .i64)), (6, .val (.int .i64))]⟩
def s29 : PSig := ⟨0, [(55, (.int .u32), false)], [(0, .val (.list (.int .u32))), (6, .val (.int .i64)), (7, .own 0), (8, .val (.int .i64)), (9, .val (.int .i64))]⟩
def s0 : PSig := ⟨0, [(55, (.int .u32), false)], [(0, .val (.list (.int .u32))), (6, .val (.int .i64)), (7, .own 0), (8, .val (.int .i64)), (9, .val (.int .i64)), (10, .val (.int .i64))]⟩
def s41 : PSig := ⟨0, [(55, (.int .u32), false)], [(0, .val (.list (.int .u32))), (6, .val (.int .i64)), (7, .own 0), (8, .val (.int .i64)), (9, .val (.int .i64)), (10, .val (.int .i64)), (11, .val (.int .u64))]⟩
def s33 : PSig := ⟨0, [(55, (.int .u32), false)], [(0, .val (.list (.int .u32))), (6, .val (.int .i64)), (7, .own 0), (8, .val (.int .i64)), (9, .val (.int .i64)), (10, .val (.int .i64))]⟩
def fws : Nat → List (FuncId × FW) := fun _ => []
def ptL : List (Pt (TD [(.list (.int .u32)), (.int .i64)])) := [⟨5, s5, fun k (x : Unit) => ref01_Shift.p5 k x⟩, ⟨17, s17, fun k (x : (List Int) × Int × Int) => ref01_Shift.p17 k x.1 x.2.1 x.2.2⟩, ⟨29, s29, fun k (x : (List Int) × (List Int) × Int × Int × Int) => ref01_Shift.p29 k x.1 x.2.1 x.2.2.1 x.2.2.2.1 x.2.2.2.2⟩, ⟨0, s0, fun k (x : (List Int) × (List Int) × Int × Int × Int × Int) => ref01_Shift.p0 k x.1 x.2.1 x.2.2.1 x.2.2.2.1 x.2.2.2.2.1 x.2.2.2.2.2⟩, ⟨41, s41, fun k (x : (List Int) × (List Int) × Int × Int × Int × Int × Int) => ref01_Shift.p41 k x.1 x.2.1 x.2.2.1 x.2.2.2.1 x.2.2.2.2.1 x.2.2.2.2.2.1 x.2.2.2.2.2.2⟩, ⟨33, s33, fun k (x : (List Int) × (List Int) × Int × Int × Int × Int) => ref01_Shift.p33 k x.1 x.2.1 x.2.2.1 x.2.2.2.1 x.2.2.2.2.1 x.2.2.2.2.2⟩]
def fns : Nat → List (FuncId × FS) := fun k => [(120, ⟨[(.list (.int .u32))], [(.list (.int .u32))], fun (x : (List Int)) => ref01_Norm.f k x⟩)]
def fgs : Nat → List (FuncId × FG) := fun _ => []
def fs (k : Nat) : FS := ⟨[(.list (.int .u32)), (.int .i64)], [(.list (.int .u32)), (.int .i64)], fun (x : (List Int) × Int) => ref01_Shift.f k x.1 x.2⟩
theorem ok : FnOk Tryz.prog 160 106 Tryz.f160.results.toList (Tryz.f160.body.getD .skip) 2 := ⟨⟨Tryz.f160, by kernel_rfl, by kernel_rfl, by kernel_rfl, rfl, by kernel_rfl⟩, by kernel_rfl, by decide⟩
theorem c (k : Nat) : Contract Tryz.prog 160 (fs k) :=
  fn_sound (ps := [(.list (.int .u32)), (.int .i64)]) (rs := [(.list (.int .u32)), (.int .i64)]) (pts := ptL) (fns := fns) (fgs := fgs) (fws := fws) (tys := tyTab) (main := fun k (x : (List Int) × Int) => ref01_Shift.f k x.1 x.2) ok mix tyOk ⟨⟨rfl, fun _ => rfl, fun k x => by kernel_rfl⟩, ⟨rfl, fun _ => rfl, fun k x => by kernel_rfl⟩, ⟨rfl, fun _ => rfl, fun k x => by kernel_rfl⟩, ⟨rfl, fun _ => rfl, fun k x => by kernel_rfl⟩, ⟨rfl, fun _ => rfl, fun k x => by kernel_rfl⟩, ⟨rfl, fun _ => rfl, fun k x => by kernel_rfl⟩, trivial⟩ (fun k x => by kernel_rfl) (fun k => ⟨⟨ref01_Norm.c k, trivial⟩, trivial, trivial⟩) k
end ref01_Shift

namespace ref01_Sub
def s0 : PSig := ⟨0, [(55, (.int .u32), false)], [(0, .val (.list (.int .u32))), (1, .val (.list (.int .u32))), (6, .own 0), (7, .val (.int .u64)), (8, .val (.int .i64))]⟩
def fws : Nat → List (FuncId × FW) := fun _ => []
def ptL : List (Pt (TD [(.list (.int .u32)), (.int .i64)])) := [⟨0, s0, fun k (x : (List Int) × (List Int) × (List Int) × Int × Int) => ref01_Sub.p0 k x.1 x.2.1 x.2.2.1 x.2.2.2.1 x.2.2.2.2⟩]
def fns : Nat → List (FuncId × FS) := fun k => [(129, ⟨[(.list (.int .u32)), (.list (.int .u32))], [(.int .i64)], fun (x : (List Int) × (List Int)) => ref01_Cmp.f k x.1 x.2⟩), (155, ⟨[(.list (.int .u32)), (.int .i64)], [(.int .u64)], fun (x : (List Int) × Int) => ref01_at.f k x.1 x.2⟩), (120, ⟨[(.list (.int .u32))], [(.list (.int .u32))], fun (x : (List Int)) => ref01_Norm.f k x⟩)]
def fgs : Nat → List (FuncId × FG) := fun _ => []
def fs (k : Nat) : FS := ⟨[(.list (.int .u32)), (.list (.int .u32))], [(.list (.int .u32)), (.int .i64)], fun (x : (List Int) × (List Int)) => ref01_Sub.f k x.1 x.2⟩
theorem ok : FnOk Tryz.prog 130 41 Tryz.f130.results.toList (Tryz.f130.body.getD .skip) 2 := ⟨⟨Tryz.f130, by kernel_rfl, by kernel_rfl, by kernel_rfl, rfl, by kernel_rfl⟩, by kernel_rfl, by decide⟩
theorem c (k : Nat) : Contract Tryz.prog 130 (fs k) :=
  fn_sound (ps := [(.list (.int .u32)), (.list (.int .u32))]) (rs := [(.list (.int .u32)), (.int .i64)]) (pts := ptL) (fns := fns) (fgs := fgs) (fws := fws) (tys := tyTab) (main := fun k (x : (List Int) × (List Int)) => ref01_Sub.f k x.1 x.2) ok mix tyOk ⟨⟨rfl, fun _ => rfl, fun k x => by kernel_rfl⟩, trivial⟩ (fun k x => by kernel_rfl) (fun k => ⟨⟨ref01_Cmp.c k, ref01_at.c k, ref01_Norm.c k, trivial⟩, trivial, trivial⟩) k
end ref01_Sub

namespace ref01_twice
def s11 : PSig := ⟨0, [(55, (.int .u32), false)], [(0, .val (.list (.int .u32))), (5, .own 0), (6, .val (.int .u32))]⟩
def s0 : PSig := ⟨0, [(55, (.int .u32), false)], [(0, .val (.list (.int .u32))), (5, .own 0), (6, .val (.int .u32)), (7, .val (.int .i64))]⟩
def fws : Nat → List (FuncId × FW) := fun _ => []
def ptL : List (Pt (TD [(.list (.int .u32))])) := [⟨11, s11, fun k (x : (List Int) × (List Int) × Int) => ref01_twice.p11 k x.1 x.2.1 x.2.2⟩, ⟨0, s0, fun k (x : (List Int) × (List Int) × Int × Int) => ref01_twice.p0 k x.1 x.2.1 x.2.2.1 x.2.2.2⟩]
def fns : Nat → List (FuncId × FS) := fun k => [(120, ⟨[(.list (.int .u32))], [(.list (.int .u32))], fun (x : (List Int)) => ref01_Norm.f k x⟩)]
def fgs : Nat → List (FuncId × FG) := fun _ => []
def fs (k : Nat) : FS := ⟨[(.list (.int .u32)), .bool], [(.list (.int .u32))], fun (x : (List Int) × Bool) => ref01_twice.f k x.1 x.2⟩
theorem ok : FnOk Tryz.prog 161 41 Tryz.f161.results.toList (Tryz.f161.body.getD .skip) 2 := ⟨⟨Tryz.f161, by kernel_rfl, by kernel_rfl, by kernel_rfl, rfl, by kernel_rfl⟩, by kernel_rfl, by decide⟩
theorem c (k : Nat) : Contract Tryz.prog 161 (fs k) :=
  fn_sound (ps := [(.list (.int .u32)), .bool]) (rs := [(.list (.int .u32))]) (pts := ptL) (fns := fns) (fgs := fgs) (fws := fws) (tys := tyTab) (main := fun k (x : (List Int) × Bool) => ref01_twice.f k x.1 x.2) ok mix tyOk ⟨⟨rfl, fun _ => rfl, fun k x => by kernel_rfl⟩, ⟨rfl, fun _ => rfl, fun k x => by kernel_rfl⟩, trivial⟩ (fun k x => by kernel_rfl) (fun k => ⟨⟨ref01_Norm.c k, trivial⟩, trivial, trivial⟩) k
end ref01_twice

namespace ref01_Gcd
def s19 : PSig := ⟨0, [], [(5, .val (.list (.int .u32)))]⟩
def s0 : PSig := ⟨0, [], [(0, .val (.list (.int .u32))), (1, .val (.list (.int .u32))), (6, .val (.int .i64))]⟩
def s4 : PSig := ⟨0, [], [(0, .val (.list (.int .u32))), (1, .val (.list (.int .u32))), (6, .val (.int .i64))]⟩
def s8 : PSig := ⟨0, [], [(0, .val (.list (.int .u32))), (1, .val (.list (.int .u32))), (6, .val (.int .i64))]⟩
def s16 : PSig := ⟨0, [], [(0, .val (.list (.int .u32))), (6, .val (.int .i64)), (7, .val (.int .i64))]⟩
def s12 : PSig := ⟨0, [], [(0, .val (.list (.int .u32))), (1, .val (.list (.int .u32))), (6, .val (.int .i64))]⟩
def s45 : PSig := ⟨0, [], [(0, .val (.list (.int .u32))), (1, .val (.list (.int .u32))), (6, .val (.int .i64))]⟩
def fws : Nat → List (FuncId × FW) := fun _ => []
def ptL : List (Pt (TD [(.list (.int .u32))])) := [⟨19, s19, fun k (x : (List Int)) => ref01_Gcd.p19 k x⟩, ⟨0, s0, fun k (x : (List Int) × (List Int) × Int) => ref01_Gcd.p0 k x.1 x.2.1 x.2.2⟩, ⟨4, s4, fun k (x : (List Int) × (List Int) × Int) => ref01_Gcd.p4 k x.1 x.2.1 x.2.2⟩, ⟨8, s8, fun k (x : (List Int) × (List Int) × Int) => ref01_Gcd.p8 k x.1 x.2.1 x.2.2⟩, ⟨16, s16, fun k (x : (List Int) × Int × Int) => ref01_Gcd.p16 k x.1 x.2.1 x.2.2⟩, ⟨12, s12, fun k (x : (List Int) × (List Int) × Int) => ref01_Gcd.p12 k x.1 x.2.1 x.2.2⟩, ⟨45, s45, fun k (x : (List Int) × (List Int) × Int) => ref01_Gcd.p45 k x.1 x.2.1 x.2.2⟩]
def fns : Nat → List (FuncId × FS) := fun k => [(120, ⟨[(.list (.int .u32))], [(.list (.int .u32))], fun (x : (List Int)) => ref01_Norm.f k x⟩), (129, ⟨[(.list (.int .u32)), (.list (.int .u32))], [(.int .i64)], fun (x : (List Int) × (List Int)) => ref01_Cmp.f k x.1 x.2⟩), (159, ⟨[(.list (.int .u32)), (.int .i64)], [.bool], fun (x : (List Int) × Int) => ref01_Bit.f k x.1 x.2⟩), (160, ⟨[(.list (.int .u32)), (.int .i64)], [(.list (.int .u32)), (.int .i64)], fun (x : (List Int) × Int) => ref01_Shift.f k x.1 x.2⟩), (161, ⟨[(.list (.int .u32)), .bool], [(.list (.int .u32))], fun (x : (List Int) × Bool) => ref01_twice.f k x.1 x.2⟩), (130, ⟨[(.list (.int .u32)), (.list (.int .u32))], [(.list (.int .u32)), (.int .i64)], fun (x : (List Int) × (List Int)) => ref01_Sub.f k x.1 x.2⟩)]
def fgs : Nat → List (FuncId × FG) := fun _ => []
def fs (k : Nat) : FS := ⟨[(.list (.int .u32)), (.list (.int .u32))], [(.list (.int .u32))], fun (x : (List Int) × (List Int)) => ref01_Gcd.f k x.1 x.2⟩
theorem ok : FnOk Tryz.prog 121 91 Tryz.f121.results.toList (Tryz.f121.body.getD .skip) 2 := ⟨⟨Tryz.f121, by kernel_rfl, by kernel_rfl, by kernel_rfl, rfl, by kernel_rfl⟩, by kernel_rfl, by decide⟩
theorem c (k : Nat) : Contract Tryz.prog 121 (fs k) :=
  fn_sound (ps := [(.list (.int .u32)), (.list (.int .u32))]) (rs := [(.list (.int .u32))]) (pts := ptL) (fns := fns) (fgs := fgs) (fws := fws) (tys := tyTab) (main := fun k (x : (List Int) × (List Int)) => ref01_Gcd.f k x.1 x.2) ok mix tyOk ⟨⟨rfl, fun _ => rfl, fun k x => by kernel_rfl⟩, ⟨rfl, fun _ => rfl, fun k x => by kernel_rfl⟩, ⟨rfl, fun _ => rfl, fun k x => by kernel_rfl⟩, ⟨rfl, fun _ => rfl, fun k x => by kernel_rfl⟩, ⟨rfl, fun _ => rfl, fun k x => by kernel_rfl⟩, ⟨rfl, fun _ => rfl, fun k x => by kernel_rfl⟩, ⟨rfl, fun _ => rfl, fun k x => by kernel_rfl⟩, trivial⟩ (fun k x => by kernel_rfl) (fun k => ⟨⟨ref01_Norm.c k, ref01_Cmp.c k, ref01_Bit.c k, ref01_Shift.c k, ref01_twice.c k, ref01_Sub.c k, trivial⟩, trivial, trivial⟩) k
end ref01_Gcd

namespace ref01_Div
def s19 : PSig := ⟨0, [(55, (.int .u32), false)], [(0, .val (.list (.int .u32))), (1, .val (.list (.int .u32))), (7, .own 0), (8, .val (.int .i64))]⟩
def s0 : PSig := ⟨0, [(55, (.int .u32), false)], [(0, .val (.list (.int .u32))), (1, .val (.list (.int .u32))), (7, .own 0), (9, .val (.list (.int .u32))), (10, .val (.int .i64))]⟩
def s25 : PSig := ⟨0, [(55, (.int .u32), false)], [(0, .val (.list (.int .u32))), (1, .val (.list (.int .u32))), (7, .own 0), (9, .val (.list (.int .u32))), (10, .val (.int .i64))]⟩
def fws : Nat → List (FuncId × FW) := fun _ => []
def ptL : List (Pt (TD [(.list (.int .u32)), (.list (.int .u32)), (.int .i64)])) := [⟨19, s19, fun k (x : (List Int) × (List Int) × (List Int) × Int) => ref01_Div.p19 k x.1 x.2.1 x.2.2.1 x.2.2.2⟩, ⟨0, s0, fun k (x : (List Int) × (List Int) × (List Int) × (List Int) × Int) => ref01_Div.p0 k x.1 x.2.1 x.2.2.1 x.2.2.2.1 x.2.2.2.2⟩, ⟨25, s25, fun k (x : (List Int) × (List Int) × (List Int) × (List Int) × Int) => ref01_Div.p25 k x.1 x.2.1 x.2.2.1 x.2.2.2.1 x.2.2.2.2⟩]
def fns : Nat → List (FuncId × FS) := fun k => [(120, ⟨[(.list (.int .u32))], [(.list (.int .u32))], fun (x : (List Int)) => ref01_Norm.f k x⟩), (159, ⟨[(.list (.int .u32)), (.int .i64)], [.bool], fun (x : (List Int) × Int) => ref01_Bit.f k x.1 x.2⟩), (161, ⟨[(.list (.int .u32)), .bool], [(.list (.int .u32))], fun (x : (List Int) × Bool) => ref01_twice.f k x.1 x.2⟩), (129, ⟨[(.list (.int .u32)), (.list (.int .u32))], [(.int .i64)], fun (x : (List Int) × (List Int)) => ref01_Cmp.f k x.1 x.2⟩), (130, ⟨[(.list (.int .u32)), (.list (.int .u32))], [(.list (.int .u32)), (.int .i64)], fun (x : (List Int) × (List Int)) => ref01_Sub.f k x.1 x.2⟩)]
def fgs : Nat → List (FuncId × FG) := fun _ => []
def fs (k : Nat) : FS := ⟨[(.list (.int .u32)), (.list (.int .u32))], [(.list (.int .u32)), (.list (.int .u32)), (.int .i64)], fun (x : (List Int) × (List Int)) => ref01_Div.f k x.1 x.2⟩
theorem ok : FnOk Tryz.prog 122 76 Tryz.f122.results.toList (Tryz.f122.body.getD .skip) 2 := ⟨⟨Tryz.f122, by kernel_rfl, by kernel_rfl, by kernel_rfl, rfl, by kernel_rfl⟩, by kernel_rfl, by decide⟩
theorem c (k : Nat) : Contract Tryz.prog 122 (fs k) :=
  fn_sound (ps := [(.list (.int .u32)), (.list (.int .u32))]) (rs := [(.list (.int .u32)), (.list (.int .u32)), (.int .i64)]) (pts := ptL) (fns := fns) (fgs := fgs) (fws := fws) (tys := tyTab) (main := fun k (x : (List Int) × (List Int)) => ref01_Div.f k x.1 x.2) ok mix tyOk ⟨⟨rfl, fun _ => rfl, fun k x => by kernel_rfl⟩, ⟨rfl, fun _ => rfl, fun k x => by kernel_rfl⟩, ⟨rfl, fun _ => rfl, fun k x => by kernel_rfl⟩, trivial⟩ (fun k x => by kernel_rfl) (fun k => ⟨⟨ref01_Norm.c k, ref01_Bit.c k, ref01_twice.c k, ref01_Cmp.c k, ref01_Sub.c k, trivial⟩, trivial, trivial⟩) k
end ref01_Div

namespace ref03_Norm
def s9 : PSig := ⟨0, [(27, (.st (.pair (.st (.pair .bool (.list (.int .u32)))) (.list (.int .u32)))), true)], [(2, .ptr 0 [])]⟩
def fws : Nat → List (FuncId × FW) := fun _ => []
def ptL : List (Pt (TD [(.st (.pair (.st (.pair .bool (.list (.int .u32)))) (.list (.int .u32))))])) := [⟨9, s9, fun k (x : ((Bool × (List Int)) × (List Int))) => ref03_Norm.p9 k x⟩]
def fns : Nat → List (FuncId × FS) := fun k => [(119, ⟨[(.st (.pair .bool (.list (.int .u32))))], [(.st (.pair .bool (.list (.int .u32))))], fun (x : (Bool × (List Int))) => ref02_Norm.f k x⟩), (120, ⟨[(.list (.int .u32))], [(.list (.int .u32))], fun (x : (List Int)) => ref01_Norm.f k x⟩), (121, ⟨[(.list (.int .u32)), (.list (.int .u32))], [(.list (.int .u32))], fun (x : (List Int) × (List Int)) => ref01_Gcd.f k x.1 x.2⟩), (122, ⟨[(.list (.int .u32)), (.list (.int .u32))], [(.list (.int .u32)), (.list (.int .u32)), (.int .i64)], fun (x : (List Int) × (List Int)) => ref01_Div.f k x.1 x.2⟩)]
def fgs : Nat → List (FuncId × FG) := fun _ => []
def fs (k : Nat) : FS := ⟨[(.st (.pair (.st (.pair .bool (.list (.int .u32)))) (.list (.int .u32))))], [(.st (.pair (.st (.pair .bool (.list (.int .u32)))) (.list (.int .u32))))], fun (x : ((Bool × (List Int)) × (List Int))) => ref03_Norm.f k x⟩
theorem ok : FnOk Tryz.prog 76 55 Tryz.f76.results.toList (Tryz.f76.body.getD .skip) 1 := ⟨⟨Tryz.f76, by kernel_rfl, by kernel_rfl, by kernel_rfl, rfl, by kernel_rfl⟩, by kernel_rfl, by decide⟩
theorem c (k : Nat) : Contract Tryz.prog 76 (fs k) :=
  fn_sound (ps := [(.st (.pair (.st (.pair .bool (.list (.int .u32)))) (.list (.int .u32))))]) (rs := [(.st (.pair (.st (.pair .bool (.list (.int .u32)))) (.list (.int .u32))))]) (pts := ptL) (fns := fns) (fgs := fgs) (fws := fws) (tys := tyTab) (main := fun k (x : ((Bool × (List Int)) × (List Int))) => ref03_Norm.f k x) ok mix tyOk ⟨⟨rfl, fun _ => rfl, fun k x => by kernel_rfl⟩, trivial⟩ (fun k x => by kernel_rfl) (fun k => ⟨⟨ref02_Norm.c k, ref01_Norm.c k, ref01_Gcd.c k, ref01_Div.c k, trivial⟩, trivial, trivial⟩) k
end ref03_Norm

namespace ref03_Parse
def s11 : PSig := ⟨0, [(27, (.st (.pair (.st (.pair .bool (.list (.int .u32)))) (.list (.int .u32)))), true)], [(0, .val .str), (2, .ptr 0 []), (4, .val .bool)]⟩
def s0 : PSig := ⟨0, [(27, (.st (.pair (.st (.pair .bool (.list (.int .u32)))) (.list (.int .u32)))), true)], [(0, .val .str), (2, .ptr 0 []), (4, .val .bool), (5, .val (.int .i64))]⟩
def s17 : PSig := ⟨0, [(27, (.st (.pair (.st (.pair .bool (.list (.int .u32)))) (.list (.int .u32)))), true)], [(0, .val .str), (2, .ptr 0 []), (4, .val .bool), (5, .val (.int .i64))]⟩
def s35 : PSig := ⟨0, [(27, (.st (.pair (.st (.pair .bool (.list (.int .u32)))) (.list (.int .u32)))), true)], [(2, .ptr 0 [])]⟩
def s41 : PSig := ⟨0, [(27, (.st (.pair (.st (.pair .bool (.list (.int .u32)))) (.list (.int .u32)))), true)], [(2, .ptr 0 [])]⟩
def s4 : PSig := ⟨0, [(27, (.st (.pair (.st (.pair .bool (.list (.int .u32)))) (.list (.int .u32)))), true)], [(2, .ptr 0 []), (4, .val .bool), (6, .val (.list (.int .u32))), (8, .val .str), (11, .val (.list (.int .u32))), (12, .val (.int .i64))]⟩
def s53 : PSig := ⟨0, [(27, (.st (.pair (.st (.pair .bool (.list (.int .u32)))) (.list (.int .u32)))), true)], [(2, .ptr 0 [])]⟩
def fws : Nat → List (FuncId × FW) := fun _ => []
def ptL : List (Pt (TD [(.st (.pair (.st (.pair .bool (.list (.int .u32)))) (.list (.int .u32)))), (.int .i64)])) := [⟨11, s11, fun k (x : ((Bool × (List Int)) × (List Int)) × ByteArray × Bool) => ref03_Parse.p11 k x.1 x.2.1 x.2.2⟩, ⟨0, s0, fun k (x : ((Bool × (List Int)) × (List Int)) × ByteArray × Bool × Int) => ref03_Parse.p0 k x.1 x.2.1 x.2.2.1 x.2.2.2⟩, ⟨17, s17, fun k (x : ((Bool × (List Int)) × (List Int)) × ByteArray × Bool × Int) => ref03_Parse.p17 k x.1 x.2.1 x.2.2.1 x.2.2.2⟩, ⟨35, s35, fun k (x : ((Bool × (List Int)) × (List Int))) => ref03_Parse.p35 k x⟩, ⟨41, s41, fun k (x : ((Bool × (List Int)) × (List Int))) => ref03_Parse.p41 k x⟩, ⟨4, s4, fun k (x : ((Bool × (List Int)) × (List Int)) × Bool × (List Int) × ByteArray × (List Int) × Int) => ref03_Parse.p4 k x.1 x.2.1 x.2.2.1 x.2.2.2.1 x.2.2.2.2.1 x.2.2.2.2.2⟩, ⟨53, s53, fun k (x : ((Bool × (List Int)) × (List Int))) => ref03_Parse.p53 k x⟩]
def fns : Nat → List (FuncId × FS) := fun k => [(113, ⟨[.str, (.int .i64)], [(.list (.int .u32)), (.int .i64)], fun (x : ByteArray × Int) => ref01_Parse.f k x.1 x.2⟩), (76, ⟨[(.st (.pair (.st (.pair .bool (.list (.int .u32)))) (.list (.int .u32))))], [(.st (.pair (.st (.pair .bool (.list (.int .u32)))) (.list (.int .u32))))], fun (x : ((Bool × (List Int)) × (List Int))) => ref03_Norm.f k x⟩), (87, ⟨[(.list (.int .u32)), (.list (.int .u32))], [(.list (.int .u32))], fun (x : (List Int) × (List Int)) => ref01_Mul.f k x.1 x.2⟩), (114, ⟨[(.list (.int .u32)), (.list (.int .u32))], [(.list (.int .u32))], fun (x : (List Int) × (List Int)) => ref01_Add.f k x.1 x.2⟩)]
def fgs : Nat → List (FuncId × FG) := fun _ => []
def fs (k : Nat) : FS := ⟨[.str], [(.st (.pair (.st (.pair .bool (.list (.int .u32)))) (.list (.int .u32)))), (.int .i64)], fun (x : ByteArray) => ref03_Parse.f k x⟩
theorem ok : FnOk Tryz.prog 66 132 Tryz.f66.results.toList (Tryz.f66.body.getD .skip) 1 := ⟨⟨Tryz.f66, by kernel_rfl, by kernel_rfl, by kernel_rfl, rfl, by kernel_rfl⟩, by kernel_rfl, by decide⟩
theorem c (k : Nat) : Contract Tryz.prog 66 (fs k) :=
  fn_sound (ps := [.str]) (rs := [(.st (.pair (.st (.pair .bool (.list (.int .u32)))) (.list (.int .u32)))), (.int .i64)]) (pts := ptL) (fns := fns) (fgs := fgs) (fws := fws) (tys := tyTab) (main := fun k (x : ByteArray) => ref03_Parse.f k x) ok mix tyOk ⟨⟨rfl, fun _ => rfl, fun k x => by kernel_rfl⟩, ⟨rfl, fun _ => rfl, fun k x => by kernel_rfl⟩, ⟨rfl, fun _ => rfl, fun k x => by kernel_rfl⟩, ⟨rfl, fun _ => rfl, fun k x => by kernel_rfl⟩, ⟨rfl, fun _ => rfl, fun k x => by kernel_rfl⟩, ⟨rfl, fun _ => rfl, fun k x => by kernel_rfl⟩, ⟨rfl, fun _ => rfl, fun k x => by kernel_rfl⟩, trivial⟩ (fun k x => by kernel_rfl) (fun k => ⟨⟨ref01_Parse.c k, ref03_Norm.c k, ref01_Mul.c k, ref01_Add.c k, trivial⟩, trivial, trivial⟩) k
end ref03_Parse

namespace ref05_Norm
def fws : Nat → List (FuncId × FW) := fun _ => []
def ptL : List (Pt (TD [(.st (.pair (.st (.pair (.st (.pair .bool (.list (.int .u32)))) (.list (.int .u32)))) (.st (.pair (.st (.pair .bool (.list (.int .u32)))) (.list (.int .u32))))))])) := []
def fns : Nat → List (FuncId × FS) := fun k => [(76, ⟨[(.st (.pair (.st (.pair .bool (.list (.int .u32)))) (.list (.int .u32))))], [(.st (.pair (.st (.pair .bool (.list (.int .u32)))) (.list (.int .u32))))], fun (x : ((Bool × (List Int)) × (List Int))) => ref03_Norm.f k x⟩)]
def fgs : Nat → List (FuncId × FG) := fun _ => []
def fs (k : Nat) : FS := ⟨[(.st (.pair (.st (.pair (.st (.pair .bool (.list (.int .u32)))) (.list (.int .u32)))) (.st (.pair (.st (.pair .bool (.list (.int .u32)))) (.list (.int .u32))))))], [(.st (.pair (.st (.pair (.st (.pair .bool (.list (.int .u32)))) (.list (.int .u32)))) (.st (.pair (.st (.pair .bool (.list (.int .u32)))) (.list (.int .u32))))))], fun (x : (((Bool × (List Int)) × (List Int)) × ((Bool × (List Int)) × (List Int)))) => ref05_Norm.f k x⟩
theorem ok : FnOk Tryz.prog 35 10 Tryz.f35.results.toList (Tryz.f35.body.getD .skip) 1 := ⟨⟨Tryz.f35, by kernel_rfl, by kernel_rfl, by kernel_rfl, rfl, by kernel_rfl⟩, by kernel_rfl, by decide⟩
theorem c (k : Nat) : Contract Tryz.prog 35 (fs k) :=
  fn_sound (ps := [(.st (.pair (.st (.pair (.st (.pair .bool (.list (.int .u32)))) (.list (.int .u32)))) (.st (.pair (.st (.pair .bool (.list (.int .u32)))) (.list (.int .u32))))))]) (rs := [(.st (.pair (.st (.pair (.st (.pair .bool (.list (.int .u32)))) (.list (.int .u32)))) (.st (.pair (.st (.pair .bool (.list (.int .u32)))) (.list (.int .u32))))))]) (pts := ptL) (fns := fns) (fgs := fgs) (fws := fws) (tys := tyTab) (main := fun k (x : (((Bool × (List Int)) × (List Int)) × ((Bool × (List Int)) × (List Int)))) => ref05_Norm.f k x) ok mix tyOk trivial (fun k x => by kernel_rfl) (fun k => ⟨⟨ref03_Norm.c k, trivial⟩, trivial, trivial⟩) k
end ref05_Norm

namespace ref05_Of
def fws : Nat → List (FuncId × FW) := fun _ => []
def ptL : List (Pt (TD [(.st (.pair (.st (.pair (.st (.pair .bool (.list (.int .u32)))) (.list (.int .u32)))) (.st (.pair (.st (.pair .bool (.list (.int .u32)))) (.list (.int .u32))))))])) := []
def fns : Nat → List (FuncId × FS) := fun k => [(35, ⟨[(.st (.pair (.st (.pair (.st (.pair .bool (.list (.int .u32)))) (.list (.int .u32)))) (.st (.pair (.st (.pair .bool (.list (.int .u32)))) (.list (.int .u32))))))], [(.st (.pair (.st (.pair (.st (.pair .bool (.list (.int .u32)))) (.list (.int .u32)))) (.st (.pair (.st (.pair .bool (.list (.int .u32)))) (.list (.int .u32))))))], fun (x : (((Bool × (List Int)) × (List Int)) × ((Bool × (List Int)) × (List Int)))) => ref05_Norm.f k x⟩)]
def fgs : Nat → List (FuncId × FG) := fun _ => []
def fs (k : Nat) : FS := ⟨[(.st (.pair (.st (.pair .bool (.list (.int .u32)))) (.list (.int .u32))))], [(.st (.pair (.st (.pair (.st (.pair .bool (.list (.int .u32)))) (.list (.int .u32)))) (.st (.pair (.st (.pair .bool (.list (.int .u32)))) (.list (.int .u32))))))], fun (x : ((Bool × (List Int)) × (List Int))) => ref05_Of.f k x⟩
theorem ok : FnOk Tryz.prog 37 6 Tryz.f37.results.toList (Tryz.f37.body.getD .skip) 1 := ⟨⟨Tryz.f37, by kernel_rfl, by kernel_rfl, by kernel_rfl, rfl, by kernel_rfl⟩, by kernel_rfl, by decide⟩
theorem c (k : Nat) : Contract Tryz.prog 37 (fs k) :=
  fn_sound (ps := [(.st (.pair (.st (.pair .bool (.list (.int .u32)))) (.list (.int .u32))))]) (rs := [(.st (.pair (.st (.pair (.st (.pair .bool (.list (.int .u32)))) (.list (.int .u32)))) (.st (.pair (.st (.pair .bool (.list (.int .u32)))) (.list (.int .u32))))))]) (pts := ptL) (fns := fns) (fgs := fgs) (fws := fws) (tys := tyTab) (main := fun k (x : ((Bool × (List Int)) × (List Int))) => ref05_Of.f k x) ok mix tyOk trivial (fun k x => by kernel_rfl) (fun k => ⟨⟨ref05_Norm.c k, trivial⟩, trivial, trivial⟩) k
end ref05_Of

namespace ref01_tenth
def s0 : PSig := ⟨0, [(55, (.int .u32), false)], [(0, .val (.list (.int .u32))), (1, .val (.int .i64)), (6, .own 0), (7, .val (.int .u64)), (8, .val (.int .i64))]⟩
def fws : Nat → List (FuncId × FW) := fun _ => []
def ptL : List (Pt (TD [(.list (.int .u32)), (.int .i64)])) := [⟨0, s0, fun k (x : (List Int) × (List Int) × Int × Int × Int) => ref01_tenth.p0 k x.1 x.2.1 x.2.2.1 x.2.2.2.1 x.2.2.2.2⟩]
def fns : Nat → List (FuncId × FS) := fun k => [(120, ⟨[(.list (.int .u32))], [(.list (.int .u32))], fun (x : (List Int)) => ref01_Norm.f k x⟩)]
def fgs : Nat → List (FuncId × FG) := fun _ => []
def fs (k : Nat) : FS := ⟨[(.list (.int .u32)), (.int .i64)], [(.list (.int .u32)), (.int .i64)], fun (x : (List Int) × Int) => ref01_tenth.f k x.1 x.2⟩
theorem ok : FnOk Tryz.prog 167 43 Tryz.f167.results.toList (Tryz.f167.body.getD .skip) 2 := ⟨⟨Tryz.f167, by kernel_rfl, by kernel_rfl, by kernel_rfl, rfl, by kernel_rfl⟩, by kernel_rfl, by decide⟩
theorem c (k : Nat) : Contract Tryz.prog 167 (fs k) :=
  fn_sound (ps := [(.list (.int .u32)), (.int .i64)]) (rs := [(.list (.int .u32)), (.int .i64)]) (pts := ptL) (fns := fns) (fgs := fgs) (fws := fws) (tys := tyTab) (main := fun k (x : (List Int) × Int) => ref01_tenth.f k x.1 x.2) ok mix tyOk ⟨⟨rfl, fun _ => rfl, fun k x => by kernel_rfl⟩, trivial⟩ (fun k x => by kernel_rfl) (fun k => ⟨⟨ref01_Norm.c k, trivial⟩, trivial, trivial⟩) k
end ref01_tenth

namespace ref01_Text
def s5 : PSig := ⟨0, [], []⟩
def s0 : PSig := ⟨0, [(5, (.int .u8), false)], [(0, .val (.list (.int .u32))), (1, .val (.int .i64)), (6, .own 0)]⟩
def s4 : PSig := ⟨0, [(5, (.int .u8), false), (5, (.int .u8), false)], [(6, .own 0), (8, .own 1), (9, .val (.int .i64))]⟩
def fws : Nat → List (FuncId × FW) := fun _ => []
def ptL : List (Pt (TD [.str, (.int .i64)])) := [⟨5, s5, fun k (x : Unit) => ref01_Text.p5 k x⟩, ⟨0, s0, fun k (x : (List Int) × (List Int) × Int) => ref01_Text.p0 k x.1 x.2.1 x.2.2⟩, ⟨4, s4, fun k (x : (List Int) × (List Int) × Int) => ref01_Text.p4 k x.1 x.2.1 x.2.2⟩]
def fns : Nat → List (FuncId × FS) := fun k => [(120, ⟨[(.list (.int .u32))], [(.list (.int .u32))], fun (x : (List Int)) => ref01_Norm.f k x⟩), (167, ⟨[(.list (.int .u32)), (.int .i64)], [(.list (.int .u32)), (.int .i64)], fun (x : (List Int) × Int) => ref01_tenth.f k x.1 x.2⟩)]
def fgs : Nat → List (FuncId × FG) := fun _ => []
def fs (k : Nat) : FS := ⟨[(.list (.int .u32)), (.int .i64)], [.str, (.int .i64)], fun (x : (List Int) × Int) => ref01_Text.f k x.1 x.2⟩
theorem ok : FnOk Tryz.prog 134 58 Tryz.f134.results.toList (Tryz.f134.body.getD .skip) 2 := ⟨⟨Tryz.f134, by kernel_rfl, by kernel_rfl, by kernel_rfl, rfl, by kernel_rfl⟩, by kernel_rfl, by decide⟩
theorem c (k : Nat) : Contract Tryz.prog 134 (fs k) :=
  fn_sound (ps := [(.list (.int .u32)), (.int .i64)]) (rs := [.str, (.int .i64)]) (pts := ptL) (fns := fns) (fgs := fgs) (fws := fws) (tys := tyTab) (main := fun k (x : (List Int) × Int) => ref01_Text.f k x.1 x.2) ok mix tyOk ⟨⟨rfl, fun _ => rfl, fun k x => by kernel_rfl⟩, ⟨rfl, fun _ => rfl, fun k x => by kernel_rfl⟩, ⟨rfl, fun _ => rfl, fun k x => by kernel_rfl⟩, trivial⟩ (fun k x => by kernel_rfl) (fun k => ⟨⟨ref01_Norm.c k, ref01_tenth.c k, trivial⟩, trivial, trivial⟩) k
end ref01_Text

namespace ref02_Sign
def fws : Nat → List (FuncId × FW) := fun _ => []
def ptL : List (Pt (TD [(.int .i64)])) := []
def fns : Nat → List (FuncId × FS) := fun k => [(119, ⟨[(.st (.pair .bool (.list (.int .u32))))], [(.st (.pair .bool (.list (.int .u32))))], fun (x : (Bool × (List Int))) => ref02_Norm.f k x⟩)]
def fgs : Nat → List (FuncId × FG) := fun _ => []
def fs (k : Nat) : FS := ⟨[(.st (.pair .bool (.list (.int .u32))))], [(.int .i64)], fun (x : (Bool × (List Int))) => ref02_Sign.f k x⟩
theorem ok : FnOk Tryz.prog 79 12 Tryz.f79.results.toList (Tryz.f79.body.getD .skip) 1 := ⟨⟨Tryz.f79, by kernel_rfl, by kernel_rfl, by kernel_rfl, rfl, by kernel_rfl⟩, by kernel_rfl, by decide⟩
theorem c (k : Nat) : Contract Tryz.prog 79 (fs k) :=
  fn_sound (ps := [(.st (.pair .bool (.list (.int .u32))))]) (rs := [(.int .i64)]) (pts := ptL) (fns := fns) (fgs := fgs) (fws := fws) (tys := tyTab) (main := fun k (x : (Bool × (List Int))) => ref02_Sign.f k x) ok mix tyOk trivial (fun k x => by kernel_rfl) (fun k => ⟨⟨ref02_Norm.c k, trivial⟩, trivial, trivial⟩) k
end ref02_Sign

namespace ref02_Text
def fws : Nat → List (FuncId × FW) := fun _ => []
def ptL : List (Pt (TD [.str])) := []
def fns : Nat → List (FuncId × FS) := fun k => [(120, ⟨[(.list (.int .u32))], [(.list (.int .u32))], fun (x : (List Int)) => ref01_Norm.f k x⟩), (134, ⟨[(.list (.int .u32)), (.int .i64)], [.str, (.int .i64)], fun (x : (List Int) × Int) => ref01_Text.f k x.1 x.2⟩), (79, ⟨[(.st (.pair .bool (.list (.int .u32))))], [(.int .i64)], fun (x : (Bool × (List Int))) => ref02_Sign.f k x⟩)]
def fgs : Nat → List (FuncId × FG) := fun _ => []
def fs (k : Nat) : FS := ⟨[(.st (.pair .bool (.list (.int .u32))))], [.str], fun (x : (Bool × (List Int))) => ref02_Text.f k x⟩
theorem ok : FnOk Tryz.prog 95 18 Tryz.f95.results.toList (Tryz.f95.body.getD .skip) 1 := ⟨⟨Tryz.f95, by kernel_rfl, by kernel_rfl, by kernel_rfl, rfl, by kernel_rfl⟩, by kernel_rfl, by decide⟩
theorem c (k : Nat) : Contract Tryz.prog 95 (fs k) :=
  fn_sound (ps := [(.st (.pair .bool (.list (.int .u32))))]) (rs := [.str]) (pts := ptL) (fns := fns) (fgs := fgs) (fws := fws) (tys := tyTab) (main := fun k (x : (Bool × (List Int))) => ref02_Text.f k x) ok mix tyOk trivial (fun k x => by kernel_rfl) (fun k => ⟨⟨ref01_Norm.c k, ref01_Text.c k, ref02_Sign.c k, trivial⟩, trivial, trivial⟩) k
end ref02_Text

namespace ref01_Same
def s0 : PSig := ⟨0, [], [(0, .val (.list (.int .u32))), (1, .val (.list (.int .u32))), (5, .val (.int .i64))]⟩
def fws : Nat → List (FuncId × FW) := fun _ => []
def ptL : List (Pt (TD [.bool])) := [⟨0, s0, fun k (x : (List Int) × (List Int) × Int) => ref01_Same.p0 k x.1 x.2.1 x.2.2⟩]
def fns : Nat → List (FuncId × FS) := fun _ => []
def fgs : Nat → List (FuncId × FG) := fun _ => []
def fs (k : Nat) : FS := ⟨[(.list (.int .u32)), (.list (.int .u32))], [.bool], fun (x : (List Int) × (List Int)) => ref01_Same.f k x.1 x.2⟩
theorem ok : FnOk Tryz.prog 74 26 Tryz.f74.results.toList (Tryz.f74.body.getD .skip) 2 := ⟨⟨Tryz.f74, by kernel_rfl, by kernel_rfl, by kernel_rfl, rfl, by kernel_rfl⟩, by kernel_rfl, by decide⟩
theorem c (k : Nat) : Contract Tryz.prog 74 (fs k) :=
  fn_sound (ps := [(.list (.int .u32)), (.list (.int .u32))]) (rs := [.bool]) (pts := ptL) (fns := fns) (fgs := fgs) (fws := fws) (tys := tyTab) (main := fun k (x : (List Int) × (List Int)) => ref01_Same.f k x.1 x.2) ok mix tyOk ⟨⟨rfl, fun _ => rfl, fun k x => by kernel_rfl⟩, trivial⟩ (fun k x => by kernel_rfl) (fun _ => ⟨trivial, trivial, trivial⟩) k
end ref01_Same

namespace ref03_digits
def fws : Nat → List (FuncId × FW) := fun _ => []
def ptL : List (Pt (TD [.str])) := []
def fns : Nat → List (FuncId × FS) := fun k => [(134, ⟨[(.list (.int .u32)), (.int .i64)], [.str, (.int .i64)], fun (x : (List Int) × Int) => ref01_Text.f k x.1 x.2⟩)]
def fgs : Nat → List (FuncId × FG) := fun _ => []
def fs (k : Nat) : FS := ⟨[(.list (.int .u32))], [.str], fun (x : (List Int)) => ref03_digits.f k x⟩
theorem ok : FnOk Tryz.prog 96 11 Tryz.f96.results.toList (Tryz.f96.body.getD .skip) 1 := ⟨⟨Tryz.f96, by kernel_rfl, by kernel_rfl, by kernel_rfl, rfl, by kernel_rfl⟩, by kernel_rfl, by decide⟩
theorem c (k : Nat) : Contract Tryz.prog 96 (fs k) :=
  fn_sound (ps := [(.list (.int .u32))]) (rs := [.str]) (pts := ptL) (fns := fns) (fgs := fgs) (fws := fws) (tys := tyTab) (main := fun k (x : (List Int)) => ref03_digits.f k x) ok mix tyOk trivial (fun k x => by kernel_rfl) (fun k => ⟨⟨ref01_Text.c k, trivial⟩, trivial, trivial⟩) k
end ref03_digits

namespace ref03_Text
def s11 : PSig := ⟨0, [], [(3, .val .str)]⟩
def fws : Nat → List (FuncId × FW) := fun _ => []
def ptL : List (Pt (TD [.str])) := [⟨11, s11, fun k (x : ByteArray) => ref03_Text.p11 k x⟩]
def fns : Nat → List (FuncId × FS) := fun k => [(76, ⟨[(.st (.pair (.st (.pair .bool (.list (.int .u32)))) (.list (.int .u32))))], [(.st (.pair (.st (.pair .bool (.list (.int .u32)))) (.list (.int .u32))))], fun (x : ((Bool × (List Int)) × (List Int))) => ref03_Norm.f k x⟩), (95, ⟨[(.st (.pair .bool (.list (.int .u32))))], [.str], fun (x : (Bool × (List Int))) => ref02_Text.f k x⟩), (74, ⟨[(.list (.int .u32)), (.list (.int .u32))], [.bool], fun (x : (List Int) × (List Int)) => ref01_Same.f k x.1 x.2⟩), (96, ⟨[(.list (.int .u32))], [.str], fun (x : (List Int)) => ref03_digits.f k x⟩)]
def fgs : Nat → List (FuncId × FG) := fun _ => []
def fs (k : Nat) : FS := ⟨[(.st (.pair (.st (.pair .bool (.list (.int .u32)))) (.list (.int .u32))))], [.str], fun (x : ((Bool × (List Int)) × (List Int))) => ref03_Text.f k x⟩
theorem ok : FnOk Tryz.prog 60 21 Tryz.f60.results.toList (Tryz.f60.body.getD .skip) 1 := ⟨⟨Tryz.f60, by kernel_rfl, by kernel_rfl, by kernel_rfl, rfl, by kernel_rfl⟩, by kernel_rfl, by decide⟩
theorem c (k : Nat) : Contract Tryz.prog 60 (fs k) :=
  fn_sound (ps := [(.st (.pair (.st (.pair .bool (.list (.int .u32)))) (.list (.int .u32))))]) (rs := [.str]) (pts := ptL) (fns := fns) (fgs := fgs) (fws := fws) (tys := tyTab) (main := fun k (x : ((Bool × (List Int)) × (List Int))) => ref03_Text.f k x) ok mix tyOk ⟨⟨rfl, fun _ => rfl, fun k x => by kernel_rfl⟩, trivial⟩ (fun k x => by kernel_rfl) (fun k => ⟨⟨ref03_Norm.c k, ref02_Text.c k, ref01_Same.c k, ref03_digits.c k, trivial⟩, trivial, trivial⟩) k
end ref03_Text

namespace ref03_Sign
def fws : Nat → List (FuncId × FW) := fun _ => []
def ptL : List (Pt (TD [(.int .i64)])) := []
def fns : Nat → List (FuncId × FS) := fun k => [(76, ⟨[(.st (.pair (.st (.pair .bool (.list (.int .u32)))) (.list (.int .u32))))], [(.st (.pair (.st (.pair .bool (.list (.int .u32)))) (.list (.int .u32))))], fun (x : ((Bool × (List Int)) × (List Int))) => ref03_Norm.f k x⟩), (79, ⟨[(.st (.pair .bool (.list (.int .u32))))], [(.int .i64)], fun (x : (Bool × (List Int))) => ref02_Sign.f k x⟩)]
def fgs : Nat → List (FuncId × FG) := fun _ => []
def fs (k : Nat) : FS := ⟨[(.st (.pair (.st (.pair .bool (.list (.int .u32)))) (.list (.int .u32))))], [(.int .i64)], fun (x : ((Bool × (List Int)) × (List Int))) => ref03_Sign.f k x⟩
theorem ok : FnOk Tryz.prog 42 7 Tryz.f42.results.toList (Tryz.f42.body.getD .skip) 1 := ⟨⟨Tryz.f42, by kernel_rfl, by kernel_rfl, by kernel_rfl, rfl, by kernel_rfl⟩, by kernel_rfl, by decide⟩
theorem c (k : Nat) : Contract Tryz.prog 42 (fs k) :=
  fn_sound (ps := [(.st (.pair (.st (.pair .bool (.list (.int .u32)))) (.list (.int .u32))))]) (rs := [(.int .i64)]) (pts := ptL) (fns := fns) (fgs := fgs) (fws := fws) (tys := tyTab) (main := fun k (x : ((Bool × (List Int)) × (List Int))) => ref03_Sign.f k x) ok mix tyOk trivial (fun k x => by kernel_rfl) (fun k => ⟨⟨ref03_Norm.c k, ref02_Sign.c k, trivial⟩, trivial, trivial⟩) k
end ref03_Sign

namespace ref02_Neg
def fws : Nat → List (FuncId × FW) := fun _ => []
def ptL : List (Pt (TD [(.st (.pair .bool (.list (.int .u32))))])) := []
def fns : Nat → List (FuncId × FS) := fun k => [(127, ⟨[.bool, (.list (.int .u32))], [(.st (.pair .bool (.list (.int .u32))))], fun (x : Bool × (List Int)) => ref02_made.f k x.1 x.2⟩)]
def fgs : Nat → List (FuncId × FG) := fun _ => []
def fs (k : Nat) : FS := ⟨[(.st (.pair .bool (.list (.int .u32))))], [(.st (.pair .bool (.list (.int .u32))))], fun (x : (Bool × (List Int))) => ref02_Neg.f k x⟩
theorem ok : FnOk Tryz.prog 97 9 Tryz.f97.results.toList (Tryz.f97.body.getD .skip) 1 := ⟨⟨Tryz.f97, by kernel_rfl, by kernel_rfl, by kernel_rfl, rfl, by kernel_rfl⟩, by kernel_rfl, by decide⟩
theorem c (k : Nat) : Contract Tryz.prog 97 (fs k) :=
  fn_sound (ps := [(.st (.pair .bool (.list (.int .u32))))]) (rs := [(.st (.pair .bool (.list (.int .u32))))]) (pts := ptL) (fns := fns) (fgs := fgs) (fws := fws) (tys := tyTab) (main := fun k (x : (Bool × (List Int))) => ref02_Neg.f k x) ok mix tyOk trivial (fun k x => by kernel_rfl) (fun k => ⟨⟨ref02_made.c k, trivial⟩, trivial, trivial⟩) k
end ref02_Neg

namespace ref03_Neg
def fws : Nat → List (FuncId × FW) := fun _ => []
def ptL : List (Pt (TD [(.st (.pair (.st (.pair .bool (.list (.int .u32)))) (.list (.int .u32))))])) := []
def fns : Nat → List (FuncId × FS) := fun k => [(76, ⟨[(.st (.pair (.st (.pair .bool (.list (.int .u32)))) (.list (.int .u32))))], [(.st (.pair (.st (.pair .bool (.list (.int .u32)))) (.list (.int .u32))))], fun (x : ((Bool × (List Int)) × (List Int))) => ref03_Norm.f k x⟩), (97, ⟨[(.st (.pair .bool (.list (.int .u32))))], [(.st (.pair .bool (.list (.int .u32))))], fun (x : (Bool × (List Int))) => ref02_Neg.f k x⟩)]
def fgs : Nat → List (FuncId × FG) := fun _ => []
def fs (k : Nat) : FS := ⟨[(.st (.pair (.st (.pair .bool (.list (.int .u32)))) (.list (.int .u32))))], [(.st (.pair (.st (.pair .bool (.list (.int .u32)))) (.list (.int .u32))))], fun (x : ((Bool × (List Int)) × (List Int))) => ref03_Neg.f k x⟩
theorem ok : FnOk Tryz.prog 61 12 Tryz.f61.results.toList (Tryz.f61.body.getD .skip) 1 := ⟨⟨Tryz.f61, by kernel_rfl, by kernel_rfl, by kernel_rfl, rfl, by kernel_rfl⟩, by kernel_rfl, by decide⟩
theorem c (k : Nat) : Contract Tryz.prog 61 (fs k) :=
  fn_sound (ps := [(.st (.pair (.st (.pair .bool (.list (.int .u32)))) (.list (.int .u32))))]) (rs := [(.st (.pair (.st (.pair .bool (.list (.int .u32)))) (.list (.int .u32))))]) (pts := ptL) (fns := fns) (fgs := fgs) (fws := fws) (tys := tyTab) (main := fun k (x : ((Bool × (List Int)) × (List Int))) => ref03_Neg.f k x) ok mix tyOk trivial (fun k x => by kernel_rfl) (fun k => ⟨⟨ref03_Norm.c k, ref02_Neg.c k, trivial⟩, trivial, trivial⟩) k
end ref03_Neg

namespace ref05_Text
def s15 : PSig := ⟨0, [], [(3, .val .str)]⟩
def fws : Nat → List (FuncId × FW) := fun _ => []
def ptL : List (Pt (TD [.str])) := [⟨15, s15, fun k (x : ByteArray) => ref05_Text.p15 k x⟩]
def fns : Nat → List (FuncId × FS) := fun k => [(60, ⟨[(.st (.pair (.st (.pair .bool (.list (.int .u32)))) (.list (.int .u32))))], [.str], fun (x : ((Bool × (List Int)) × (List Int))) => ref03_Text.f k x⟩), (42, ⟨[(.st (.pair (.st (.pair .bool (.list (.int .u32)))) (.list (.int .u32))))], [(.int .i64)], fun (x : ((Bool × (List Int)) × (List Int))) => ref03_Sign.f k x⟩), (61, ⟨[(.st (.pair (.st (.pair .bool (.list (.int .u32)))) (.list (.int .u32))))], [(.st (.pair (.st (.pair .bool (.list (.int .u32)))) (.list (.int .u32))))], fun (x : ((Bool × (List Int)) × (List Int))) => ref03_Neg.f k x⟩)]
def fgs : Nat → List (FuncId × FG) := fun _ => []
def fs (k : Nat) : FS := ⟨[(.st (.pair (.st (.pair (.st (.pair .bool (.list (.int .u32)))) (.list (.int .u32)))) (.st (.pair (.st (.pair .bool (.list (.int .u32)))) (.list (.int .u32))))))], [.str], fun (x : (((Bool × (List Int)) × (List Int)) × ((Bool × (List Int)) × (List Int)))) => ref05_Text.f k x⟩
theorem ok : FnOk Tryz.prog 17 30 Tryz.f17.results.toList (Tryz.f17.body.getD .skip) 1 := ⟨⟨Tryz.f17, by kernel_rfl, by kernel_rfl, by kernel_rfl, rfl, by kernel_rfl⟩, by kernel_rfl, by decide⟩
theorem c (k : Nat) : Contract Tryz.prog 17 (fs k) :=
  fn_sound (ps := [(.st (.pair (.st (.pair (.st (.pair .bool (.list (.int .u32)))) (.list (.int .u32)))) (.st (.pair (.st (.pair .bool (.list (.int .u32)))) (.list (.int .u32))))))]) (rs := [.str]) (pts := ptL) (fns := fns) (fgs := fgs) (fws := fws) (tys := tyTab) (main := fun k (x : (((Bool × (List Int)) × (List Int)) × ((Bool × (List Int)) × (List Int)))) => ref05_Text.f k x) ok mix tyOk ⟨⟨rfl, fun _ => rfl, fun k x => by kernel_rfl⟩, trivial⟩ (fun k x => by kernel_rfl) (fun k => ⟨⟨ref03_Text.c k, ref03_Sign.c k, ref03_Neg.c k, trivial⟩, trivial, trivial⟩) k
end ref05_Text

namespace ref05_Parse
def s9 : PSig := ⟨0, [(29, (.st (.pair (.st (.pair (.st (.pair .bool (.list (.int .u32)))) (.list (.int .u32)))) (.st (.pair (.st (.pair .bool (.list (.int .u32)))) (.list (.int .u32)))))), true)], [(0, .val .str), (2, .ptr 0 [])]⟩
def s0 : PSig := ⟨0, [(29, (.st (.pair (.st (.pair (.st (.pair .bool (.list (.int .u32)))) (.list (.int .u32)))) (.st (.pair (.st (.pair .bool (.list (.int .u32)))) (.list (.int .u32)))))), true)], [(0, .val .str), (2, .ptr 0 []), (6, .val (.int .i64))]⟩
def s13 : PSig := ⟨0, [(29, (.st (.pair (.st (.pair (.st (.pair .bool (.list (.int .u32)))) (.list (.int .u32)))) (.st (.pair (.st (.pair .bool (.list (.int .u32)))) (.list (.int .u32)))))), true)], [(0, .val .str), (2, .ptr 0 []), (6, .val (.int .i64))]⟩
def s17 : PSig := ⟨0, [(29, (.st (.pair (.st (.pair (.st (.pair .bool (.list (.int .u32)))) (.list (.int .u32)))) (.st (.pair (.st (.pair .bool (.list (.int .u32)))) (.list (.int .u32)))))), true)], [(0, .val .str), (2, .ptr 0 []), (6, .val (.int .i64))]⟩
def s27 : PSig := ⟨0, [(29, (.st (.pair (.st (.pair (.st (.pair .bool (.list (.int .u32)))) (.list (.int .u32)))) (.st (.pair (.st (.pair .bool (.list (.int .u32)))) (.list (.int .u32)))))), true), (27, (.st (.pair (.st (.pair .bool (.list (.int .u32)))) (.list (.int .u32)))), true), (27, (.st (.pair (.st (.pair .bool (.list (.int .u32)))) (.list (.int .u32)))), true)], [(0, .val .str), (2, .ptr 0 []), (6, .val (.int .i64)), (7, .ptr 1 []), (9, .ptr 2 [])]⟩
def fws : Nat → List (FuncId × FW) := fun _ => []
def ptL : List (Pt (TD [(.st (.pair (.st (.pair (.st (.pair .bool (.list (.int .u32)))) (.list (.int .u32)))) (.st (.pair (.st (.pair .bool (.list (.int .u32)))) (.list (.int .u32)))))), (.int .i64)])) := [⟨9, s9, fun k (x : (((Bool × (List Int)) × (List Int)) × ((Bool × (List Int)) × (List Int))) × ByteArray) => ref05_Parse.p9 k x.1 x.2⟩, ⟨0, s0, fun k (x : (((Bool × (List Int)) × (List Int)) × ((Bool × (List Int)) × (List Int))) × ByteArray × Int) => ref05_Parse.p0 k x.1 x.2.1 x.2.2⟩, ⟨13, s13, fun k (x : (((Bool × (List Int)) × (List Int)) × ((Bool × (List Int)) × (List Int))) × ByteArray × Int) => ref05_Parse.p13 k x.1 x.2.1 x.2.2⟩, ⟨17, s17, fun k (x : (((Bool × (List Int)) × (List Int)) × ((Bool × (List Int)) × (List Int))) × ByteArray × Int) => ref05_Parse.p17 k x.1 x.2.1 x.2.2⟩, ⟨27, s27, fun k (x : (((Bool × (List Int)) × (List Int)) × ((Bool × (List Int)) × (List Int))) × ((Bool × (List Int)) × (List Int)) × ((Bool × (List Int)) × (List Int)) × ByteArray × Int) => ref05_Parse.p27 k x.1 x.2.1 x.2.2.1 x.2.2.2.1 x.2.2.2.2⟩]
def fns : Nat → List (FuncId × FS) := fun k => [(66, ⟨[.str], [(.st (.pair (.st (.pair .bool (.list (.int .u32)))) (.list (.int .u32)))), (.int .i64)], fun (x : ByteArray) => ref03_Parse.f k x⟩), (37, ⟨[(.st (.pair (.st (.pair .bool (.list (.int .u32)))) (.list (.int .u32))))], [(.st (.pair (.st (.pair (.st (.pair .bool (.list (.int .u32)))) (.list (.int .u32)))) (.st (.pair (.st (.pair .bool (.list (.int .u32)))) (.list (.int .u32))))))], fun (x : ((Bool × (List Int)) × (List Int))) => ref05_Of.f k x⟩), (17, ⟨[(.st (.pair (.st (.pair (.st (.pair .bool (.list (.int .u32)))) (.list (.int .u32)))) (.st (.pair (.st (.pair .bool (.list (.int .u32)))) (.list (.int .u32))))))], [.str], fun (x : (((Bool × (List Int)) × (List Int)) × ((Bool × (List Int)) × (List Int)))) => ref05_Text.f k x⟩), (61, ⟨[(.st (.pair (.st (.pair .bool (.list (.int .u32)))) (.list (.int .u32))))], [(.st (.pair (.st (.pair .bool (.list (.int .u32)))) (.list (.int .u32))))], fun (x : ((Bool × (List Int)) × (List Int))) => ref03_Neg.f k x⟩)]
def fgs : Nat → List (FuncId × FG) := fun _ => []
def fs (k : Nat) : FS := ⟨[.str], [(.st (.pair (.st (.pair (.st (.pair .bool (.list (.int .u32)))) (.list (.int .u32)))) (.st (.pair (.st (.pair .bool (.list (.int .u32)))) (.list (.int .u32)))))), (.int .i64)], fun (x : ByteArray) => ref05_Parse.f k x⟩
theorem ok : FnOk Tryz.prog 19 92 Tryz.f19.results.toList (Tryz.f19.body.getD .skip) 1 := ⟨⟨Tryz.f19, by kernel_rfl, by kernel_rfl, by kernel_rfl, rfl, by kernel_rfl⟩, by kernel_rfl, by decide⟩
theorem c (k : Nat) : Contract Tryz.prog 19 (fs k) :=
  fn_sound (ps := [.str]) (rs := [(.st (.pair (.st (.pair (.st (.pair .bool (.list (.int .u32)))) (.list (.int .u32)))) (.st (.pair (.st (.pair .bool (.list (.int .u32)))) (.list (.int .u32)))))), (.int .i64)]) (pts := ptL) (fns := fns) (fgs := fgs) (fws := fws) (tys := tyTab) (main := fun k (x : ByteArray) => ref05_Parse.f k x) ok mix tyOk ⟨⟨rfl, fun _ => rfl, fun k x => by kernel_rfl⟩, ⟨rfl, fun _ => rfl, fun k x => by kernel_rfl⟩, ⟨rfl, fun _ => rfl, fun k x => by kernel_rfl⟩, ⟨rfl, fun _ => rfl, fun k x => by kernel_rfl⟩, ⟨rfl, fun _ => rfl, fun k x => by kernel_rfl⟩, trivial⟩ (fun k x => by kernel_rfl) (fun k => ⟨⟨ref03_Parse.c k, ref05_Of.c k, ref05_Text.c k, ref03_Neg.c k, trivial⟩, trivial, trivial⟩) k
end ref05_Parse

namespace ref03_Same
def fws : Nat → List (FuncId × FW) := fun _ => []
def ptL : List (Pt (TD [.bool])) := []
def fns : Nat → List (FuncId × FS) := fun k => [(74, ⟨[(.list (.int .u32)), (.list (.int .u32))], [.bool], fun (x : (List Int) × (List Int)) => ref01_Same.f k x.1 x.2⟩)]
def fgs : Nat → List (FuncId × FG) := fun _ => []
def fs (k : Nat) : FS := ⟨[(.st (.pair (.st (.pair .bool (.list (.int .u32)))) (.list (.int .u32)))), (.st (.pair (.st (.pair .bool (.list (.int .u32)))) (.list (.int .u32))))], [.bool], fun (x : ((Bool × (List Int)) × (List Int)) × ((Bool × (List Int)) × (List Int))) => ref03_Same.f k x.1 x.2⟩
theorem ok : FnOk Tryz.prog 31 28 Tryz.f31.results.toList (Tryz.f31.body.getD .skip) 2 := ⟨⟨Tryz.f31, by kernel_rfl, by kernel_rfl, by kernel_rfl, rfl, by kernel_rfl⟩, by kernel_rfl, by decide⟩
theorem c (k : Nat) : Contract Tryz.prog 31 (fs k) :=
  fn_sound (ps := [(.st (.pair (.st (.pair .bool (.list (.int .u32)))) (.list (.int .u32)))), (.st (.pair (.st (.pair .bool (.list (.int .u32)))) (.list (.int .u32))))]) (rs := [.bool]) (pts := ptL) (fns := fns) (fgs := fgs) (fws := fws) (tys := tyTab) (main := fun k (x : ((Bool × (List Int)) × (List Int)) × ((Bool × (List Int)) × (List Int))) => ref03_Same.f k x.1 x.2) ok mix tyOk trivial (fun k x => by kernel_rfl) (fun k => ⟨⟨ref01_Same.c k, trivial⟩, trivial, trivial⟩) k
end ref03_Same

namespace ref05_Same
def fws : Nat → List (FuncId × FW) := fun _ => []
def ptL : List (Pt (TD [.bool])) := []
def fns : Nat → List (FuncId × FS) := fun k => [(31, ⟨[(.st (.pair (.st (.pair .bool (.list (.int .u32)))) (.list (.int .u32)))), (.st (.pair (.st (.pair .bool (.list (.int .u32)))) (.list (.int .u32))))], [.bool], fun (x : ((Bool × (List Int)) × (List Int)) × ((Bool × (List Int)) × (List Int))) => ref03_Same.f k x.1 x.2⟩)]
def fgs : Nat → List (FuncId × FG) := fun _ => []
def fs (k : Nat) : FS := ⟨[(.st (.pair (.st (.pair (.st (.pair .bool (.list (.int .u32)))) (.list (.int .u32)))) (.st (.pair (.st (.pair .bool (.list (.int .u32)))) (.list (.int .u32)))))), (.st (.pair (.st (.pair (.st (.pair .bool (.list (.int .u32)))) (.list (.int .u32)))) (.st (.pair (.st (.pair .bool (.list (.int .u32)))) (.list (.int .u32))))))], [.bool], fun (x : (((Bool × (List Int)) × (List Int)) × ((Bool × (List Int)) × (List Int))) × (((Bool × (List Int)) × (List Int)) × ((Bool × (List Int)) × (List Int)))) => ref05_Same.f k x.1 x.2⟩
theorem ok : FnOk Tryz.prog 67 17 Tryz.f67.results.toList (Tryz.f67.body.getD .skip) 2 := ⟨⟨Tryz.f67, by kernel_rfl, by kernel_rfl, by kernel_rfl, rfl, by kernel_rfl⟩, by kernel_rfl, by decide⟩
theorem c (k : Nat) : Contract Tryz.prog 67 (fs k) :=
  fn_sound (ps := [(.st (.pair (.st (.pair (.st (.pair .bool (.list (.int .u32)))) (.list (.int .u32)))) (.st (.pair (.st (.pair .bool (.list (.int .u32)))) (.list (.int .u32)))))), (.st (.pair (.st (.pair (.st (.pair .bool (.list (.int .u32)))) (.list (.int .u32)))) (.st (.pair (.st (.pair .bool (.list (.int .u32)))) (.list (.int .u32))))))]) (rs := [.bool]) (pts := ptL) (fns := fns) (fgs := fgs) (fws := fws) (tys := tyTab) (main := fun k (x : (((Bool × (List Int)) × (List Int)) × ((Bool × (List Int)) × (List Int))) × (((Bool × (List Int)) × (List Int)) × ((Bool × (List Int)) × (List Int)))) => ref05_Same.f k x.1 x.2) ok mix tyOk trivial (fun k x => by kernel_rfl) (fun k => ⟨⟨ref03_Same.c k, trivial⟩, trivial, trivial⟩) k
end ref05_Same

namespace law05_same
def fws : Nat → List (FuncId × FW) := fun _ => []
def ptL : List (Pt (TD [.bool])) := []
def fns : Nat → List (FuncId × FS) := fun k => [(67, ⟨[(.st (.pair (.st (.pair (.st (.pair .bool (.list (.int .u32)))) (.list (.int .u32)))) (.st (.pair (.st (.pair .bool (.list (.int .u32)))) (.list (.int .u32)))))), (.st (.pair (.st (.pair (.st (.pair .bool (.list (.int .u32)))) (.list (.int .u32)))) (.st (.pair (.st (.pair .bool (.list (.int .u32)))) (.list (.int .u32))))))], [.bool], fun (x : (((Bool × (List Int)) × (List Int)) × ((Bool × (List Int)) × (List Int))) × (((Bool × (List Int)) × (List Int)) × ((Bool × (List Int)) × (List Int)))) => ref05_Same.f k x.1 x.2⟩)]
def fgs : Nat → List (FuncId × FG) := fun _ => []
def fs (k : Nat) : FS := ⟨[(.st (.pair (.st (.pair (.st (.pair .bool (.list (.int .u32)))) (.list (.int .u32)))) (.st (.pair (.st (.pair .bool (.list (.int .u32)))) (.list (.int .u32)))))), (.st (.pair (.st (.pair (.st (.pair .bool (.list (.int .u32)))) (.list (.int .u32)))) (.st (.pair (.st (.pair .bool (.list (.int .u32)))) (.list (.int .u32))))))], [.bool], fun (x : (((Bool × (List Int)) × (List Int)) × ((Bool × (List Int)) × (List Int))) × (((Bool × (List Int)) × (List Int)) × ((Bool × (List Int)) × (List Int)))) => law05_same.f k x.1 x.2⟩
theorem ok : FnOk Tryz.prog 20 8 Tryz.f20.results.toList (Tryz.f20.body.getD .skip) 2 := ⟨⟨Tryz.f20, by kernel_rfl, by kernel_rfl, by kernel_rfl, rfl, by kernel_rfl⟩, by kernel_rfl, by decide⟩
theorem c (k : Nat) : Contract Tryz.prog 20 (fs k) :=
  fn_sound (ps := [(.st (.pair (.st (.pair (.st (.pair .bool (.list (.int .u32)))) (.list (.int .u32)))) (.st (.pair (.st (.pair .bool (.list (.int .u32)))) (.list (.int .u32)))))), (.st (.pair (.st (.pair (.st (.pair .bool (.list (.int .u32)))) (.list (.int .u32)))) (.st (.pair (.st (.pair .bool (.list (.int .u32)))) (.list (.int .u32))))))]) (rs := [.bool]) (pts := ptL) (fns := fns) (fgs := fgs) (fws := fws) (tys := tyTab) (main := fun k (x : (((Bool × (List Int)) × (List Int)) × ((Bool × (List Int)) × (List Int))) × (((Bool × (List Int)) × (List Int)) × ((Bool × (List Int)) × (List Int)))) => law05_same.f k x.1 x.2) ok mix tyOk trivial (fun k x => by kernel_rfl) (fun k => ⟨⟨ref05_Same.c k, trivial⟩, trivial, trivial⟩) k
end law05_same

namespace ref01_Of
def fws : Nat → List (FuncId × FW) := fun _ => []
def ptL : List (Pt (TD [(.list (.int .u32))])) := []
def fns : Nat → List (FuncId × FS) := fun k => [(120, ⟨[(.list (.int .u32))], [(.list (.int .u32))], fun (x : (List Int)) => ref01_Norm.f k x⟩)]
def fgs : Nat → List (FuncId × FG) := fun _ => []
def fs (k : Nat) : FS := ⟨[(.int .u64)], [(.list (.int .u32))], fun (x : Int) => ref01_Of.f k x⟩
theorem ok : FnOk Tryz.prog 128 10 Tryz.f128.results.toList (Tryz.f128.body.getD .skip) 1 := ⟨⟨Tryz.f128, by kernel_rfl, by kernel_rfl, by kernel_rfl, rfl, by kernel_rfl⟩, by kernel_rfl, by decide⟩
theorem c (k : Nat) : Contract Tryz.prog 128 (fs k) :=
  fn_sound (ps := [(.int .u64)]) (rs := [(.list (.int .u32))]) (pts := ptL) (fns := fns) (fgs := fgs) (fws := fws) (tys := tyTab) (main := fun k (x : Int) => ref01_Of.f k x) ok mix tyOk trivial (fun k x => by kernel_rfl) (fun k => ⟨⟨ref01_Norm.c k, trivial⟩, trivial, trivial⟩) k
end ref01_Of

namespace ref02_Of
def fws : Nat → List (FuncId × FW) := fun _ => []
def ptL : List (Pt (TD [(.st (.pair .bool (.list (.int .u32))))])) := []
def fns : Nat → List (FuncId × FS) := fun k => [(128, ⟨[(.int .u64)], [(.list (.int .u32))], fun (x : Int) => ref01_Of.f k x⟩), (127, ⟨[.bool, (.list (.int .u32))], [(.st (.pair .bool (.list (.int .u32))))], fun (x : Bool × (List Int)) => ref02_made.f k x.1 x.2⟩)]
def fgs : Nat → List (FuncId × FG) := fun _ => []
def fs (k : Nat) : FS := ⟨[(.int .i64)], [(.st (.pair .bool (.list (.int .u32))))], fun (x : Int) => ref02_Of.f k x⟩
theorem ok : FnOk Tryz.prog 83 14 Tryz.f83.results.toList (Tryz.f83.body.getD .skip) 1 := ⟨⟨Tryz.f83, by kernel_rfl, by kernel_rfl, by kernel_rfl, rfl, by kernel_rfl⟩, by kernel_rfl, by decide⟩
theorem c (k : Nat) : Contract Tryz.prog 83 (fs k) :=
  fn_sound (ps := [(.int .i64)]) (rs := [(.st (.pair .bool (.list (.int .u32))))]) (pts := ptL) (fns := fns) (fgs := fgs) (fws := fws) (tys := tyTab) (main := fun k (x : Int) => ref02_Of.f k x) ok mix tyOk trivial (fun k x => by kernel_rfl) (fun k => ⟨⟨ref01_Of.c k, ref02_made.c k, trivial⟩, trivial, trivial⟩) k
end ref02_Of

namespace ref03_Whole
def fws : Nat → List (FuncId × FW) := fun _ => []
def ptL : List (Pt (TD [(.st (.pair (.st (.pair .bool (.list (.int .u32)))) (.list (.int .u32))))])) := []
def fns : Nat → List (FuncId × FS) := fun k => [(83, ⟨[(.int .i64)], [(.st (.pair .bool (.list (.int .u32))))], fun (x : Int) => ref02_Of.f k x⟩), (76, ⟨[(.st (.pair (.st (.pair .bool (.list (.int .u32)))) (.list (.int .u32))))], [(.st (.pair (.st (.pair .bool (.list (.int .u32)))) (.list (.int .u32))))], fun (x : ((Bool × (List Int)) × (List Int))) => ref03_Norm.f k x⟩)]
def fgs : Nat → List (FuncId × FG) := fun _ => []
def fs (k : Nat) : FS := ⟨[(.int .i64)], [(.st (.pair (.st (.pair .bool (.list (.int .u32)))) (.list (.int .u32))))], fun (x : Int) => ref03_Whole.f k x⟩
theorem ok : FnOk Tryz.prog 47 8 Tryz.f47.results.toList (Tryz.f47.body.getD .skip) 1 := ⟨⟨Tryz.f47, by kernel_rfl, by kernel_rfl, by kernel_rfl, rfl, by kernel_rfl⟩, by kernel_rfl, by decide⟩
theorem c (k : Nat) : Contract Tryz.prog 47 (fs k) :=
  fn_sound (ps := [(.int .i64)]) (rs := [(.st (.pair (.st (.pair .bool (.list (.int .u32)))) (.list (.int .u32))))]) (pts := ptL) (fns := fns) (fgs := fgs) (fws := fws) (tys := tyTab) (main := fun k (x : Int) => ref03_Whole.f k x) ok mix tyOk trivial (fun k x => by kernel_rfl) (fun k => ⟨⟨ref02_Of.c k, ref03_Norm.c k, trivial⟩, trivial, trivial⟩) k
end ref03_Whole

namespace law05_lives
def fws : Nat → List (FuncId × FW) := fun _ => []
def ptL : List (Pt (TD [.bool])) := []
def fns : Nat → List (FuncId × FS) := fun k => [(18, ⟨[.str], [(.st (.pair (.st (.pair (.st (.pair .bool (.list (.int .u32)))) (.list (.int .u32)))) (.st (.pair (.st (.pair .bool (.list (.int .u32)))) (.list (.int .u32)))))), (.int .i64)], fun (x : ByteArray) => delta_Parse.f k x⟩), (47, ⟨[(.int .i64)], [(.st (.pair (.st (.pair .bool (.list (.int .u32)))) (.list (.int .u32))))], fun (x : Int) => ref03_Whole.f k x⟩), (20, ⟨[(.st (.pair (.st (.pair (.st (.pair .bool (.list (.int .u32)))) (.list (.int .u32)))) (.st (.pair (.st (.pair .bool (.list (.int .u32)))) (.list (.int .u32)))))), (.st (.pair (.st (.pair (.st (.pair .bool (.list (.int .u32)))) (.list (.int .u32)))) (.st (.pair (.st (.pair .bool (.list (.int .u32)))) (.list (.int .u32))))))], [.bool], fun (x : (((Bool × (List Int)) × (List Int)) × ((Bool × (List Int)) × (List Int))) × (((Bool × (List Int)) × (List Int)) × ((Bool × (List Int)) × (List Int)))) => law05_same.f k x.1 x.2⟩)]
def fgs : Nat → List (FuncId × FG) := fun _ => []
def fs (k : Nat) : FS := ⟨[], [.bool], fun (x : Unit) => law05_lives.f k x⟩
theorem ok : FnOk Tryz.prog 14 16 Tryz.f14.results.toList (Tryz.f14.body.getD .skip) 0 := ⟨⟨Tryz.f14, by kernel_rfl, by kernel_rfl, by kernel_rfl, rfl, by kernel_rfl⟩, by kernel_rfl, by decide⟩
theorem c (k : Nat) : Contract Tryz.prog 14 (fs k) :=
  fn_sound (ps := []) (rs := [.bool]) (pts := ptL) (fns := fns) (fgs := fgs) (fws := fws) (tys := tyTab) (main := fun k (x : Unit) => law05_lives.f k x) ok mix tyOk trivial (fun k x => by kernel_rfl) (fun k => ⟨⟨delta_Parse.c k, ref03_Whole.c k, law05_same.c k, trivial⟩, trivial, trivial⟩) k
end law05_lives

namespace law05_none
def fws : Nat → List (FuncId × FW) := fun _ => []
def ptL : List (Pt (TD [.bool])) := []
def fns : Nat → List (FuncId × FS) := fun _ => []
def fgs : Nat → List (FuncId × FG) := fun _ => []
def fs (k : Nat) : FS := ⟨[(.st (.pair (.st (.pair .bool (.list (.int .u32)))) (.list (.int .u32))))], [.bool], fun (x : ((Bool × (List Int)) × (List Int))) => law05_none.f k x⟩
theorem ok : FnOk Tryz.prog 21 20 Tryz.f21.results.toList (Tryz.f21.body.getD .skip) 1 := ⟨⟨Tryz.f21, by kernel_rfl, by kernel_rfl, by kernel_rfl, rfl, by kernel_rfl⟩, by kernel_rfl, by decide⟩
theorem c (k : Nat) : Contract Tryz.prog 21 (fs k) :=
  fn_sound (ps := [(.st (.pair (.st (.pair .bool (.list (.int .u32)))) (.list (.int .u32))))]) (rs := [.bool]) (pts := ptL) (fns := fns) (fgs := fgs) (fws := fws) (tys := tyTab) (main := fun k (x : ((Bool × (List Int)) × (List Int))) => law05_none.f k x) ok mix tyOk trivial (fun k x => by kernel_rfl) (fun _ => ⟨trivial, trivial, trivial⟩) k
end law05_none

namespace law05_DeltaReads
def s9 : PSig := ⟨0, [], []⟩
def s11 : PSig := ⟨0, [(29, (.st (.pair (.st (.pair (.st (.pair .bool (.list (.int .u32)))) (.list (.int .u32)))) (.st (.pair (.st (.pair .bool (.list (.int .u32)))) (.list (.int .u32)))))), true)], [(3, .ptr 0 []), (4, .val (.int .i64))]⟩
def fws : Nat → List (FuncId × FW) := fun _ => []
def ptL : List (Pt (TD [.bool])) := [⟨9, s9, fun k (x : Unit) => law05_DeltaReads.p9 k x⟩, ⟨11, s11, fun k (x : (((Bool × (List Int)) × (List Int)) × ((Bool × (List Int)) × (List Int))) × Int) => law05_DeltaReads.p11 k x.1 x.2⟩]
def fns : Nat → List (FuncId × FS) := fun k => [(18, ⟨[.str], [(.st (.pair (.st (.pair (.st (.pair .bool (.list (.int .u32)))) (.list (.int .u32)))) (.st (.pair (.st (.pair .bool (.list (.int .u32)))) (.list (.int .u32)))))), (.int .i64)], fun (x : ByteArray) => delta_Parse.f k x⟩), (19, ⟨[.str], [(.st (.pair (.st (.pair (.st (.pair .bool (.list (.int .u32)))) (.list (.int .u32)))) (.st (.pair (.st (.pair .bool (.list (.int .u32)))) (.list (.int .u32)))))), (.int .i64)], fun (x : ByteArray) => ref05_Parse.f k x⟩), (20, ⟨[(.st (.pair (.st (.pair (.st (.pair .bool (.list (.int .u32)))) (.list (.int .u32)))) (.st (.pair (.st (.pair .bool (.list (.int .u32)))) (.list (.int .u32)))))), (.st (.pair (.st (.pair (.st (.pair .bool (.list (.int .u32)))) (.list (.int .u32)))) (.st (.pair (.st (.pair .bool (.list (.int .u32)))) (.list (.int .u32))))))], [.bool], fun (x : (((Bool × (List Int)) × (List Int)) × ((Bool × (List Int)) × (List Int))) × (((Bool × (List Int)) × (List Int)) × ((Bool × (List Int)) × (List Int)))) => law05_same.f k x.1 x.2⟩), (14, ⟨[], [.bool], fun (x : Unit) => law05_lives.f k x⟩), (21, ⟨[(.st (.pair (.st (.pair .bool (.list (.int .u32)))) (.list (.int .u32))))], [.bool], fun (x : ((Bool × (List Int)) × (List Int))) => law05_none.f k x⟩)]
def fgs : Nat → List (FuncId × FG) := fun _ => []
def fs (k : Nat) : FS := ⟨[.str], [.bool], fun (x : ByteArray) => law05_DeltaReads.f k x⟩
theorem ok : FnOk Tryz.prog 4 45 Tryz.f4.results.toList (Tryz.f4.body.getD .skip) 1 := ⟨⟨Tryz.f4, by kernel_rfl, by kernel_rfl, by kernel_rfl, rfl, by kernel_rfl⟩, by kernel_rfl, by decide⟩
theorem c (k : Nat) : Contract Tryz.prog 4 (fs k) :=
  fn_sound (ps := [.str]) (rs := [.bool]) (pts := ptL) (fns := fns) (fgs := fgs) (fws := fws) (tys := tyTab) (main := fun k (x : ByteArray) => law05_DeltaReads.f k x) ok mix tyOk ⟨⟨rfl, fun _ => rfl, fun k x => by kernel_rfl⟩, ⟨rfl, fun _ => rfl, fun k x => by kernel_rfl⟩, trivial⟩ (fun k x => by kernel_rfl) (fun k => ⟨⟨delta_Parse.c k, ref05_Parse.c k, law05_same.c k, law05_lives.c k, law05_none.c k, trivial⟩, trivial, trivial⟩) k
end law05_DeltaReads
end Go.Proofs.YtfalcbkhleobdaaGreatDoor
