/- Contracts, printed by fgen.py. -/
import Derived.Test.YtedocilafacliaaGreatDoorPlm
import Derived.Test.YtedocilafacliaaGreatDoorProg
import Derived.Test.YtedocilafacliaaGreatDoorF2
import Derived.Test.YtedocilafacliaaGreatDoorItom
namespace Go.Proofs.YtedocilafacliaaGreatDoor
open Go.FK
theorem mix : Tryz.prog.follows .mixedOrders = true ∧ ArrsOk Tryz.prog := ⟨by kernel_rfl, arrsB_ok (by kernel_rfl)⟩
def tyTab : List (TypeId × TI) := [(2, ⟨(.int .i64), 0, 0⟩), (3, ⟨(.int .i64), 0, 0⟩), (4, ⟨.bool, 0, 0⟩), (5, ⟨(.int .u8), 0, 0⟩), (9, ⟨.str, 0, 0⟩), (21, ⟨(.int .i32), 0, 0⟩), (22, ⟨.flt, 0, 0⟩), (23, ⟨(.int .i64), 0, 0⟩), (32, ⟨(.list (.int .u32)), 84, 4⟩), (34, ⟨(.st (.pair .bool (.list (.int .u32)))), 0, 0⟩), (36, ⟨(.st (.pair (.st (.pair .bool (.list (.int .u32)))) (.list (.int .u32)))), 0, 0⟩), (45, ⟨(.int .u64), 0, 0⟩), (51, ⟨(.int .u64), 0, 0⟩), (78, ⟨(.st (.pair (.st (.pair .bool (.list (.int .u32)))) (.st (.pair .bool (.list (.int .u32)))))), 34, 2⟩), (84, ⟨(.int .u32), 0, 0⟩), (107, ⟨.nilI, 0, 0⟩), (116, ⟨(.list (.int .i64)), 3, 8⟩), (128, ⟨(.list (.int .u8)), 5, 1⟩)]
theorem tyOk : tysB Tryz.prog tyTab = true := by kernel_rfl

abbrev tL : Ty := .list (.int .u32)
abbrev tZ : Ty := .st (.pair .bool (.list (.int .u32)))
abbrev tQ : Ty := .st (.pair (.st (.pair .bool (.list (.int .u32)))) (.list (.int .u32)))
def fws0 : Nat → List (FuncId × FW) := fun _ => []
def fns0 : Nat → List (FuncId × FS) := fun _ => []
def fgs0 : Nat → List (FuncId × FG) := fun _ => []

namespace stringslite_HasPrefix
def ptL : List (Pt (TD [.bool])) := []
def fs (k : Nat) : FS := ⟨[.str, .str], [.bool], fun (x : ByteArray × ByteArray) => stringslite_HasPrefix.f k x.1 x.2⟩
theorem ok : FnOk Tryz.prog 84 18 Tryz.f84.results.toList (Tryz.f84.body.getD .skip) 2 := ⟨⟨Tryz.f84, by kernel_rfl, by kernel_rfl, by kernel_rfl, rfl, by kernel_rfl⟩, by kernel_rfl, by decide⟩
theorem c (k : Nat) : Contract Tryz.prog 84 (fs k) :=
  fn_sound (ps := [.str, .str]) (rs := [.bool]) (pts := ptL) (fns := fns0) (fgs := fgs0) (fws := fws0) (tys := tyTab) (main := fun k (x : ByteArray × ByteArray) => stringslite_HasPrefix.f k x.1 x.2) ok mix tyOk trivial (fun k x => by kernel_rfl) (fun _ => ⟨trivial, trivial, trivial⟩) k
end stringslite_HasPrefix

namespace stringslite_CutPrefix
def ptL : List (Pt (TD [.str, .bool])) := []
def fns : Nat → List (FuncId × FS) := fun k => [(84, ⟨[.str, .str], [.bool], fun (x : ByteArray × ByteArray) => stringslite_HasPrefix.f k x.1 x.2⟩)]
def fs (k : Nat) : FS := ⟨[.str, .str], [.str, .bool], fun (x : ByteArray × ByteArray) => stringslite_CutPrefix.f k x.1 x.2⟩
theorem ok : FnOk Tryz.prog 42 15 Tryz.f42.results.toList (Tryz.f42.body.getD .skip) 2 := ⟨⟨Tryz.f42, by kernel_rfl, by kernel_rfl, by kernel_rfl, rfl, by kernel_rfl⟩, by kernel_rfl, by decide⟩
theorem c (k : Nat) : Contract Tryz.prog 42 (fs k) :=
  fn_sound (ps := [.str, .str]) (rs := [.str, .bool]) (pts := ptL) (fns := fns) (fgs := fgs0) (fws := fws0) (tys := tyTab) (main := fun k (x : ByteArray × ByteArray) => stringslite_CutPrefix.f k x.1 x.2) ok mix tyOk trivial (fun k x => by kernel_rfl) (fun k => ⟨⟨stringslite_HasPrefix.c k, trivial⟩, trivial, trivial⟩) k
end stringslite_CutPrefix

namespace strings_CutPrefix
def ptL : List (Pt (TD [.str, .bool])) := []
def fns : Nat → List (FuncId × FS) := fun k => [(42, ⟨[.str, .str], [.str, .bool], fun (x : ByteArray × ByteArray) => stringslite_CutPrefix.f k x.1 x.2⟩)]
def fs (k : Nat) : FS := ⟨[.str, .str], [.str, .bool], fun (x : ByteArray × ByteArray) => strings_CutPrefix.f k x.1 x.2⟩
theorem ok : FnOk Tryz.prog 16 11 Tryz.f16.results.toList (Tryz.f16.body.getD .skip) 2 := ⟨⟨Tryz.f16, by kernel_rfl, by kernel_rfl, by kernel_rfl, rfl, by kernel_rfl⟩, by kernel_rfl, by decide⟩
theorem c (k : Nat) : Contract Tryz.prog 16 (fs k) :=
  fn_sound (ps := [.str, .str]) (rs := [.str, .bool]) (pts := ptL) (fns := fns) (fgs := fgs0) (fws := fws0) (tys := tyTab) (main := fun k (x : ByteArray × ByteArray) => strings_CutPrefix.f k x.1 x.2) ok mix tyOk trivial (fun k x => by kernel_rfl) (fun k => ⟨⟨stringslite_CutPrefix.c k, trivial⟩, trivial, trivial⟩) k
end strings_CutPrefix

namespace approx_digits
def s0 : PSig := ⟨0, [], [(0, .val .str), (4, .val (.int .i64))]⟩
def s9 : PSig := ⟨0, [], [(0, .val .str), (4, .val (.int .i64))]⟩
def ptL : List (Pt (TD [.str, .str])) := [⟨0, s0, fun k (x : ByteArray × Int) => approx_digits.p0 k x.1 x.2⟩, ⟨9, s9, fun k (x : ByteArray × Int) => approx_digits.p9 k x.1 x.2⟩]
def fs (k : Nat) : FS := ⟨[.str], [.str, .str], fun (x : ByteArray) => approx_digits.f k x⟩
theorem ok : FnOk Tryz.prog 43 29 Tryz.f43.results.toList (Tryz.f43.body.getD .skip) 1 := ⟨⟨Tryz.f43, by kernel_rfl, by kernel_rfl, by kernel_rfl, rfl, by kernel_rfl⟩, by kernel_rfl, by decide⟩
theorem c (k : Nat) : Contract Tryz.prog 43 (fs k) :=
  fn_sound (ps := [.str]) (rs := [.str, .str]) (pts := ptL) (fns := fns0) (fgs := fgs0) (fws := fws0) (tys := tyTab) (main := fun k (x : ByteArray) => approx_digits.f k x) ok mix tyOk ⟨⟨rfl, fun _ => rfl, fun k x => by kernel_rfl⟩, ⟨rfl, fun _ => rfl, fun k x => by kernel_rfl⟩, trivial⟩ (fun k x => by kernel_rfl) (fun _ => ⟨trivial, trivial, trivial⟩) k
end approx_digits

namespace strings_HasPrefix
def ptL : List (Pt (TD [.bool])) := []
def fns : Nat → List (FuncId × FS) := fun k => [(84, ⟨[.str, .str], [.bool], fun (x : ByteArray × ByteArray) => stringslite_HasPrefix.f k x.1 x.2⟩)]
def fs (k : Nat) : FS := ⟨[.str, .str], [.bool], fun (x : ByteArray × ByteArray) => strings_HasPrefix.f k x.1 x.2⟩
theorem ok : FnOk Tryz.prog 85 8 Tryz.f85.results.toList (Tryz.f85.body.getD .skip) 2 := ⟨⟨Tryz.f85, by kernel_rfl, by kernel_rfl, by kernel_rfl, rfl, by kernel_rfl⟩, by kernel_rfl, by decide⟩
theorem c (k : Nat) : Contract Tryz.prog 85 (fs k) :=
  fn_sound (ps := [.str, .str]) (rs := [.bool]) (pts := ptL) (fns := fns) (fgs := fgs0) (fws := fws0) (tys := tyTab) (main := fun k (x : ByteArray × ByteArray) => strings_HasPrefix.f k x.1 x.2) ok mix tyOk trivial (fun k x => by kernel_rfl) (fun k => ⟨⟨stringslite_HasPrefix.c k, trivial⟩, trivial, trivial⟩) k
end strings_HasPrefix

namespace strings_trimLeftByte
def s0 : PSig := ⟨0, [], [(0, .val .str), (1, .val (.int .u8))]⟩
def s7 : PSig := ⟨0, [], [(0, .val .str)]⟩
def ptL : List (Pt (TD [.str])) := [⟨0, s0, fun k (x : ByteArray × Int) => strings_trimLeftByte.p0 k x.1 x.2⟩, ⟨7, s7, fun k (x : ByteArray) => strings_trimLeftByte.p7 k x⟩]
def fs (k : Nat) : FS := ⟨[.str, (.int .u8)], [.str], fun (x : ByteArray × Int) => strings_trimLeftByte.f k x.1 x.2⟩
theorem ok : FnOk Tryz.prog 116 17 Tryz.f116.results.toList (Tryz.f116.body.getD .skip) 2 := ⟨⟨Tryz.f116, by kernel_rfl, by kernel_rfl, by kernel_rfl, rfl, by kernel_rfl⟩, by kernel_rfl, by decide⟩
theorem c (k : Nat) : Contract Tryz.prog 116 (fs k) :=
  fn_sound (ps := [.str, (.int .u8)]) (rs := [.str]) (pts := ptL) (fns := fns0) (fgs := fgs0) (fws := fws0) (tys := tyTab) (main := fun k (x : ByteArray × Int) => strings_trimLeftByte.f k x.1 x.2) ok mix tyOk ⟨⟨rfl, fun _ => rfl, fun k x => by kernel_rfl⟩, ⟨rfl, fun _ => rfl, fun k x => by kernel_rfl⟩, trivial⟩ (fun k x => by kernel_rfl) (fun _ => ⟨trivial, trivial, trivial⟩) k
end strings_trimLeftByte

namespace utf8_decodeRuneInStringSlow
def ptL : List (Pt (TD [(.int .i32), (.int .i64)])) := []
def fs (k : Nat) : FS := ⟨[.str], [(.int .i32), (.int .i64)], fun (x : ByteArray) => utf8_decodeRuneInStringSlow.f k x⟩
theorem ok : FnOk Tryz.prog 148 117 Tryz.f148.results.toList (Tryz.f148.body.getD .skip) 1 := ⟨⟨Tryz.f148, by kernel_rfl, by kernel_rfl, by kernel_rfl, rfl, by kernel_rfl⟩, by kernel_rfl, by decide⟩
theorem c (k : Nat) : Contract Tryz.prog 148 (fs k) :=
  fn_sound (ps := [.str]) (rs := [(.int .i32), (.int .i64)]) (pts := ptL) (fns := fns0) (fgs := fgs0) (fws := fws0) (tys := tyTab) (main := fun k (x : ByteArray) => utf8_decodeRuneInStringSlow.f k x) ok mix tyOk trivial (fun k x => by kernel_rfl) (fun _ => ⟨trivial, trivial, trivial⟩) k
end utf8_decodeRuneInStringSlow

namespace utf8_DecodeRuneInString
def s7 : PSig := ⟨0, [], [(0, .val .str)]⟩
def ptL : List (Pt (TD [(.int .i32), (.int .i64)])) := [⟨7, s7, fun k (x : ByteArray) => utf8_DecodeRuneInString.p7 k x⟩]
def fns : Nat → List (FuncId × FS) := fun k => [(148, ⟨[.str], [(.int .i32), (.int .i64)], fun (x : ByteArray) => utf8_decodeRuneInStringSlow.f k x⟩)]
def fs (k : Nat) : FS := ⟨[.str], [(.int .i32), (.int .i64)], fun (x : ByteArray) => utf8_DecodeRuneInString.f k x⟩
theorem ok : FnOk Tryz.prog 136 19 Tryz.f136.results.toList (Tryz.f136.body.getD .skip) 1 := ⟨⟨Tryz.f136, by kernel_rfl, by kernel_rfl, by kernel_rfl, rfl, by kernel_rfl⟩, by kernel_rfl, by decide⟩
theorem c (k : Nat) : Contract Tryz.prog 136 (fs k) :=
  fn_sound (ps := [.str]) (rs := [(.int .i32), (.int .i64)]) (pts := ptL) (fns := fns) (fgs := fgs0) (fws := fws0) (tys := tyTab) (main := fun k (x : ByteArray) => utf8_DecodeRuneInString.f k x) ok mix tyOk ⟨⟨rfl, fun _ => rfl, fun k x => by kernel_rfl⟩, trivial⟩ (fun k x => by kernel_rfl) (fun k => ⟨⟨utf8_decodeRuneInStringSlow.c k, trivial⟩, trivial, trivial⟩) k
end utf8_DecodeRuneInString

namespace bytealg_IndexByteString
theorem c (k : Nat) : Contract Tryz.prog 172 ⟨[.str, (.int .u8)], [(.int .i64)], fun (x : ByteArray × Int) => bytealg_IndexByteString.f k x.1 x.2⟩ :=
  indexByteString_contract (fn := Tryz.f172) (by kernel_rfl) (by kernel_rfl) (by kernel_rfl) (by kernel_rfl) (by kernel_rfl) (fun _ _ => rfl)
end bytealg_IndexByteString

namespace stringslite_IndexByte
def ptL : List (Pt (TD [(.int .i64)])) := []
def fns : Nat → List (FuncId × FS) := fun k => [(172, ⟨[.str, (.int .u8)], [(.int .i64)], fun (x : ByteArray × Int) => bytealg_IndexByteString.f k x.1 x.2⟩)]
def fs (k : Nat) : FS := ⟨[.str, (.int .u8)], [(.int .i64)], fun (x : ByteArray × Int) => stringslite_IndexByte.f k x.1 x.2⟩
theorem ok : FnOk Tryz.prog 169 8 Tryz.f169.results.toList (Tryz.f169.body.getD .skip) 2 := ⟨⟨Tryz.f169, by kernel_rfl, by kernel_rfl, by kernel_rfl, rfl, by kernel_rfl⟩, by kernel_rfl, by decide⟩
theorem c (k : Nat) : Contract Tryz.prog 169 (fs k) :=
  fn_sound (ps := [.str, (.int .u8)]) (rs := [(.int .i64)]) (pts := ptL) (fns := fns) (fgs := fgs0) (fws := fws0) (tys := tyTab) (main := fun k (x : ByteArray × Int) => stringslite_IndexByte.f k x.1 x.2) ok mix tyOk trivial (fun k x => by kernel_rfl) (fun k => ⟨⟨bytealg_IndexByteString.c k, trivial⟩, trivial, trivial⟩) k
end stringslite_IndexByte

namespace strings_IndexByte
def ptL : List (Pt (TD [(.int .i64)])) := []
def fns : Nat → List (FuncId × FS) := fun k => [(169, ⟨[.str, (.int .u8)], [(.int .i64)], fun (x : ByteArray × Int) => stringslite_IndexByte.f k x.1 x.2⟩)]
def fs (k : Nat) : FS := ⟨[.str, (.int .u8)], [(.int .i64)], fun (x : ByteArray × Int) => strings_IndexByte.f k x.1 x.2⟩
theorem ok : FnOk Tryz.prog 158 8 Tryz.f158.results.toList (Tryz.f158.body.getD .skip) 2 := ⟨⟨Tryz.f158, by kernel_rfl, by kernel_rfl, by kernel_rfl, rfl, by kernel_rfl⟩, by kernel_rfl, by decide⟩
theorem c (k : Nat) : Contract Tryz.prog 158 (fs k) :=
  fn_sound (ps := [.str, (.int .u8)]) (rs := [(.int .i64)]) (pts := ptL) (fns := fns) (fgs := fgs0) (fws := fws0) (tys := tyTab) (main := fun k (x : ByteArray × Int) => strings_IndexByte.f k x.1 x.2) ok mix tyOk trivial (fun k x => by kernel_rfl) (fun k => ⟨⟨stringslite_IndexByte.c k, trivial⟩, trivial, trivial⟩) k
end strings_IndexByte

namespace utf8_ValidRune
def s7 : PSig := ⟨0, [], [(0, .val (.int .i32))]⟩
def s11 : PSig := ⟨0, [], []⟩
def ptL : List (Pt (TD [.bool])) := [⟨7, s7, fun k (x : Int) => utf8_ValidRune.p7 k x⟩, ⟨11, s11, fun k (x : Unit) => utf8_ValidRune.p11 k x⟩]
def fs (k : Nat) : FS := ⟨[(.int .i32)], [.bool], fun (x : Int) => utf8_ValidRune.f k x⟩
theorem ok : FnOk Tryz.prog 159 17 Tryz.f159.results.toList (Tryz.f159.body.getD .skip) 1 := ⟨⟨Tryz.f159, by kernel_rfl, by kernel_rfl, by kernel_rfl, rfl, by kernel_rfl⟩, by kernel_rfl, by decide⟩
theorem c (k : Nat) : Contract Tryz.prog 159 (fs k) :=
  fn_sound (ps := [(.int .i32)]) (rs := [.bool]) (pts := ptL) (fns := fns0) (fgs := fgs0) (fws := fws0) (tys := tyTab) (main := fun k (x : Int) => utf8_ValidRune.f k x) ok mix tyOk ⟨⟨rfl, fun _ => rfl, fun k x => by kernel_rfl⟩, ⟨rfl, fun _ => rfl, fun k x => by kernel_rfl⟩, trivial⟩ (fun k x => by kernel_rfl) (fun _ => ⟨trivial, trivial, trivial⟩) k
end utf8_ValidRune

namespace bytealg_Cutover
def ptL : List (Pt (TD [(.int .i64)])) := []
def fs (k : Nat) : FS := ⟨[(.int .i64)], [(.int .i64)], fun (x : Int) => bytealg_Cutover.f k x⟩
theorem ok : FnOk Tryz.prog 160 6 Tryz.f160.results.toList (Tryz.f160.body.getD .skip) 1 := ⟨⟨Tryz.f160, by kernel_rfl, by kernel_rfl, by kernel_rfl, rfl, by kernel_rfl⟩, by kernel_rfl, by decide⟩
theorem c (k : Nat) : Contract Tryz.prog 160 (fs k) :=
  fn_sound (ps := [(.int .i64)]) (rs := [(.int .i64)]) (pts := ptL) (fns := fns0) (fgs := fgs0) (fws := fws0) (tys := tyTab) (main := fun k (x : Int) => bytealg_Cutover.f k x) ok mix tyOk trivial (fun k x => by kernel_rfl) (fun _ => ⟨trivial, trivial, trivial⟩) k
end bytealg_Cutover

namespace strings_IndexRune
def s73 : PSig := ⟨0, [], [(0, .val .str), (1, .val (.int .i32))]⟩
def s2 : PSig := ⟨0, [], [(0, .val .str), (7, .val .str), (8, .val (.int .i64)), (9, .val (.int .i64))]⟩
def s23 : PSig := ⟨0, [], [(0, .val .str), (7, .val .str), (8, .val (.int .i64)), (9, .val (.int .i64))]⟩
def s6 : PSig := ⟨0, [], [(0, .val .str), (7, .val .str), (8, .val (.int .i64)), (9, .val (.int .i64)), (12, .val (.int .i64))]⟩
def ptL : List (Pt (TD [(.int .i64)])) := [⟨73, s73, fun k (x : ByteArray × Int) => strings_IndexRune.p73 k x.1 x.2⟩, ⟨2, s2, fun k (x : ByteArray × ByteArray × Int × Int) => strings_IndexRune.p2 k x.1 x.2.1 x.2.2.1 x.2.2.2⟩, ⟨23, s23, fun k (x : ByteArray × ByteArray × Int × Int) => strings_IndexRune.p23 k x.1 x.2.1 x.2.2.1 x.2.2.2⟩, ⟨6, s6, fun k (x : ByteArray × ByteArray × Int × Int × Int) => strings_IndexRune.p6 k x.1 x.2.1 x.2.2.1 x.2.2.2.1 x.2.2.2.2⟩]
def fns : Nat → List (FuncId × FS) := fun k => [(158, ⟨[.str, (.int .u8)], [(.int .i64)], fun (x : ByteArray × Int) => strings_IndexByte.f k x.1 x.2⟩), (159, ⟨[(.int .i32)], [.bool], fun (x : Int) => utf8_ValidRune.f k x⟩)]
def fs (k : Nat) : FS := ⟨[.str, (.int .i32)], [(.int .i64)], fun (x : ByteArray × Int) => strings_IndexRune.f k x.1 x.2⟩
theorem ok : FnOk Tryz.prog 149 187 Tryz.f149.results.toList (Tryz.f149.body.getD .skip) 2 := ⟨⟨Tryz.f149, by kernel_rfl, by kernel_rfl, by kernel_rfl, rfl, by kernel_rfl⟩, by kernel_rfl, by decide⟩
theorem c (k : Nat) : Contract Tryz.prog 149 (fs k) :=
  fn_sound (ps := [.str, (.int .i32)]) (rs := [(.int .i64)]) (pts := ptL) (fns := fns) (fgs := fgs0) (fws := fws0) (tys := tyTab) (main := fun k (x : ByteArray × Int) => strings_IndexRune.f k x.1 x.2) ok mix tyOk ⟨⟨rfl, fun _ => rfl, fun k x => by kernel_rfl⟩, ⟨rfl, fun _ => rfl, fun k x => by kernel_rfl⟩, ⟨rfl, fun _ => rfl, fun k x => by kernel_rfl⟩, ⟨rfl, fun _ => rfl, fun k x => by kernel_rfl⟩, trivial⟩ (fun k x => by kernel_rfl) (fun k => ⟨⟨strings_IndexByte.c k, utf8_ValidRune.c k, trivial⟩, trivial, trivial⟩) k
end strings_IndexRune

namespace strings_ContainsRune
def ptL : List (Pt (TD [.bool])) := []
def fns : Nat → List (FuncId × FS) := fun k => [(149, ⟨[.str, (.int .i32)], [(.int .i64)], fun (x : ByteArray × Int) => strings_IndexRune.f k x.1 x.2⟩)]
def fs (k : Nat) : FS := ⟨[.str, (.int .i32)], [.bool], fun (x : ByteArray × Int) => strings_ContainsRune.f k x.1 x.2⟩
theorem ok : FnOk Tryz.prog 137 9 Tryz.f137.results.toList (Tryz.f137.body.getD .skip) 2 := ⟨⟨Tryz.f137, by kernel_rfl, by kernel_rfl, by kernel_rfl, rfl, by kernel_rfl⟩, by kernel_rfl, by decide⟩
theorem c (k : Nat) : Contract Tryz.prog 137 (fs k) :=
  fn_sound (ps := [.str, (.int .i32)]) (rs := [.bool]) (pts := ptL) (fns := fns) (fgs := fgs0) (fws := fws0) (tys := tyTab) (main := fun k (x : ByteArray × Int) => strings_ContainsRune.f k x.1 x.2) ok mix tyOk trivial (fun k x => by kernel_rfl) (fun k => ⟨⟨strings_IndexRune.c k, trivial⟩, trivial, trivial⟩) k
end strings_ContainsRune

namespace strings_trimLeftUnicode
def s0 : PSig := ⟨0, [], [(0, .val .str), (1, .val .str)]⟩
def s11 : PSig := ⟨0, [], [(0, .val .str)]⟩
def ptL : List (Pt (TD [.str])) := [⟨0, s0, fun k (x : ByteArray × ByteArray) => strings_trimLeftUnicode.p0 k x.1 x.2⟩, ⟨11, s11, fun k (x : ByteArray) => strings_trimLeftUnicode.p11 k x⟩]
def fns : Nat → List (FuncId × FS) := fun k => [(136, ⟨[.str], [(.int .i32), (.int .i64)], fun (x : ByteArray) => utf8_DecodeRuneInString.f k x⟩), (137, ⟨[.str, (.int .i32)], [.bool], fun (x : ByteArray × Int) => strings_ContainsRune.f k x.1 x.2⟩)]
def fs (k : Nat) : FS := ⟨[.str, .str], [.str], fun (x : ByteArray × ByteArray) => strings_trimLeftUnicode.f k x.1 x.2⟩
theorem ok : FnOk Tryz.prog 119 23 Tryz.f119.results.toList (Tryz.f119.body.getD .skip) 2 := ⟨⟨Tryz.f119, by kernel_rfl, by kernel_rfl, by kernel_rfl, rfl, by kernel_rfl⟩, by kernel_rfl, by decide⟩
theorem c (k : Nat) : Contract Tryz.prog 119 (fs k) :=
  fn_sound (ps := [.str, .str]) (rs := [.str]) (pts := ptL) (fns := fns) (fgs := fgs0) (fws := fws0) (tys := tyTab) (main := fun k (x : ByteArray × ByteArray) => strings_trimLeftUnicode.f k x.1 x.2) ok mix tyOk ⟨⟨rfl, fun _ => rfl, fun k x => by kernel_rfl⟩, ⟨rfl, fun _ => rfl, fun k x => by kernel_rfl⟩, trivial⟩ (fun k x => by kernel_rfl) (fun k => ⟨⟨utf8_DecodeRuneInString.c k, strings_ContainsRune.c k, trivial⟩, trivial, trivial⟩) k
end strings_trimLeftUnicode

namespace strings_TrimLeft
def s5 : PSig := ⟨0, [], [(0, .val .str)]⟩
def s11 : PSig := ⟨0, [], [(0, .val .str), (1, .val .str)]⟩
def ptL : List (Pt (TD [.str])) := [⟨5, s5, fun k (x : ByteArray) => strings_TrimLeft.p5 k x⟩, ⟨11, s11, fun k (x : ByteArray × ByteArray) => strings_TrimLeft.p11 k x.1 x.2⟩]
def fns : Nat → List (FuncId × FS) := fun k => [(116, ⟨[.str, (.int .u8)], [.str], fun (x : ByteArray × Int) => strings_trimLeftByte.f k x.1 x.2⟩)]
def fs (k : Nat) : FS := ⟨[.str, .str], [.str], fun (x : ByteArray × ByteArray) => strings_TrimLeft.f k x.1 x.2⟩
theorem ok : FnOk Tryz.prog 86 37 Tryz.f86.results.toList (Tryz.f86.body.getD .skip) 2 := ⟨⟨Tryz.f86, by kernel_rfl, by kernel_rfl, by kernel_rfl, rfl, by kernel_rfl⟩, by kernel_rfl, by decide⟩
theorem c (k : Nat) : Contract Tryz.prog 86 (fs k) :=
  fn_sound (ps := [.str, .str]) (rs := [.str]) (pts := ptL) (fns := fns) (fgs := fgs0) (fws := fws0) (tys := tyTab) (main := fun k (x : ByteArray × ByteArray) => strings_TrimLeft.f k x.1 x.2) ok mix tyOk ⟨⟨rfl, fun _ => rfl, fun k x => by kernel_rfl⟩, ⟨rfl, fun _ => rfl, fun k x => by kernel_rfl⟩, trivial⟩ (fun k x => by kernel_rfl) (fun k => ⟨⟨strings_trimLeftByte.c k, trivial⟩, trivial, trivial⟩) k
end strings_TrimLeft

namespace intconv_lower
def ptL : List (Pt (TD [(.int .u8)])) := []
def fs (k : Nat) : FS := ⟨[(.int .u8)], [(.int .u8)], fun (x : Int) => intconv_lower.f k x⟩
theorem ok : FnOk Tryz.prog 162 5 Tryz.f162.results.toList (Tryz.f162.body.getD .skip) 1 := ⟨⟨Tryz.f162, by kernel_rfl, by kernel_rfl, by kernel_rfl, rfl, by kernel_rfl⟩, by kernel_rfl, by decide⟩
theorem c (k : Nat) : Contract Tryz.prog 162 (fs k) :=
  fn_sound (ps := [(.int .u8)]) (rs := [(.int .u8)]) (pts := ptL) (fns := fns0) (fgs := fgs0) (fws := fws0) (tys := tyTab) (main := fun k (x : Int) => intconv_lower.f k x) ok mix tyOk trivial (fun k x => by kernel_rfl) (fun _ => ⟨trivial, trivial, trivial⟩) k
end intconv_lower

namespace intconv_underscoreOK
def s9 : PSig := ⟨0, [], [(0, .val .str), (3, .val (.int .i32)), (4, .val (.int .i64))]⟩
def s11 : PSig := ⟨0, [], [(0, .val .str), (3, .val (.int .i32)), (4, .val (.int .i64))]⟩
def s15 : PSig := ⟨0, [], [(0, .val .str)]⟩
def s0 : PSig := ⟨0, [], [(0, .val .str), (3, .val (.int .i32)), (4, .val (.int .i64)), (5, .val .bool)]⟩
def s27 : PSig := ⟨0, [], [(0, .val .str), (4, .val (.int .i64)), (5, .val .bool)]⟩
def s29 : PSig := ⟨0, [], [(0, .val .str), (3, .val (.int .i32)), (4, .val (.int .i64)), (5, .val .bool)]⟩
def s23 : PSig := ⟨0, [], [(0, .val .str), (3, .val (.int .i32)), (4, .val (.int .i64)), (5, .val .bool)]⟩
def ptL : List (Pt (TD [.bool])) := [⟨9, s9, fun k (x : ByteArray × Int × Int) => intconv_underscoreOK.p9 k x.1 x.2.1 x.2.2⟩, ⟨11, s11, fun k (x : ByteArray × Int × Int) => intconv_underscoreOK.p11 k x.1 x.2.1 x.2.2⟩, ⟨15, s15, fun k (x : ByteArray) => intconv_underscoreOK.p15 k x⟩, ⟨0, s0, fun k (x : ByteArray × Int × Int × Bool) => intconv_underscoreOK.p0 k x.1 x.2.1 x.2.2.1 x.2.2.2⟩, ⟨27, s27, fun k (x : ByteArray × Int × Bool) => intconv_underscoreOK.p27 k x.1 x.2.1 x.2.2⟩, ⟨29, s29, fun k (x : ByteArray × Int × Int × Bool) => intconv_underscoreOK.p29 k x.1 x.2.1 x.2.2.1 x.2.2.2⟩, ⟨23, s23, fun k (x : ByteArray × Int × Int × Bool) => intconv_underscoreOK.p23 k x.1 x.2.1 x.2.2.1 x.2.2.2⟩]
def fns : Nat → List (FuncId × FS) := fun k => [(162, ⟨[(.int .u8)], [(.int .u8)], fun (x : Int) => intconv_lower.f k x⟩)]
def fs (k : Nat) : FS := ⟨[.str], [.bool], fun (x : ByteArray) => intconv_underscoreOK.f k x⟩
theorem ok : FnOk Tryz.prog 163 94 Tryz.f163.results.toList (Tryz.f163.body.getD .skip) 1 := ⟨⟨Tryz.f163, by kernel_rfl, by kernel_rfl, by kernel_rfl, rfl, by kernel_rfl⟩, by kernel_rfl, by decide⟩
theorem c (k : Nat) : Contract Tryz.prog 163 (fs k) :=
  fn_sound (ps := [.str]) (rs := [.bool]) (pts := ptL) (fns := fns) (fgs := fgs0) (fws := fws0) (tys := tyTab) (main := fun k (x : ByteArray) => intconv_underscoreOK.f k x) ok mix tyOk ⟨⟨rfl, fun _ => rfl, fun k x => by kernel_rfl⟩, ⟨rfl, fun _ => rfl, fun k x => by kernel_rfl⟩, ⟨rfl, fun _ => rfl, fun k x => by kernel_rfl⟩, ⟨rfl, fun _ => rfl, fun k x => by kernel_rfl⟩, ⟨rfl, fun _ => rfl, fun k x => by kernel_rfl⟩, ⟨rfl, fun _ => rfl, fun k x => by kernel_rfl⟩, ⟨rfl, fun _ => rfl, fun k x => by kernel_rfl⟩, trivial⟩ (fun k x => by kernel_rfl) (fun k => ⟨⟨intconv_lower.c k, trivial⟩, trivial, trivial⟩) k
end intconv_underscoreOK

namespace intconv_ParseUint
def s43 : PSig := ⟨0, [], [(0, .val .str), (1, .val (.int .i64)), (2, .val (.int .i64)), (8, .val .bool), (9, .val .str)]⟩
def s15 : PSig := ⟨0, [], [(0, .val .str), (1, .val (.int .i64)), (2, .val (.int .i64)), (8, .val .bool), (9, .val .str)]⟩
def s51 : PSig := ⟨0, [], [(0, .val .str), (1, .val (.int .i64)), (2, .val (.int .i64)), (8, .val .bool), (9, .val .str)]⟩
def s49 : PSig := ⟨0, [], []⟩
def s31 : PSig := ⟨0, [], [(0, .val .str), (2, .val (.int .i64)), (8, .val .bool), (9, .val .str)]⟩
def s65 : PSig := ⟨0, [], [(0, .val .str), (1, .val (.int .i64)), (2, .val (.int .i64)), (8, .val .bool), (9, .val .str), (10, .val (.int .u64))]⟩
def s37 : PSig := ⟨0, [], [(0, .val .str), (2, .val (.int .i64)), (8, .val .bool), (9, .val .str)]⟩
def s6 : PSig := ⟨0, [], [(1, .val (.int .i64)), (8, .val .bool), (9, .val .str), (10, .val (.int .u64)), (11, .val (.int .u64)), (12, .val .bool), (13, .val (.int .u64)), (99, .val (.list (.int .u8))), (100, .val (.int .i64)), (101, .val (.int .i64))]⟩
def s21 : PSig := ⟨0, [], [(0, .val .str), (2, .val (.int .i64)), (8, .val .bool), (9, .val .str)]⟩
def s85 : PSig := ⟨0, [], [(1, .val (.int .i64)), (8, .val .bool), (9, .val .str), (10, .val (.int .u64)), (11, .val (.int .u64)), (12, .val .bool), (13, .val (.int .u64)), (15, .val (.int .u8)), (99, .val (.list (.int .u8))), (100, .val (.int .i64)), (101, .val (.int .i64))]⟩
def s117 : PSig := ⟨0, [], [(13, .val (.int .u64))]⟩
def s107 : PSig := ⟨0, [], [(11, .val (.int .u64))]⟩
def s89 : PSig := ⟨0, [], [(1, .val (.int .i64)), (8, .val .bool), (9, .val .str), (10, .val (.int .u64)), (11, .val (.int .u64)), (12, .val .bool), (13, .val (.int .u64)), (15, .val (.int .u8)), (99, .val (.list (.int .u8))), (100, .val (.int .i64)), (101, .val (.int .i64))]⟩
def s79 : PSig := ⟨0, [], []⟩
def ptL : List (Pt (TD [(.int .u64), .nilI])) := [⟨43, s43, fun k (x : ByteArray × Int × Int × Bool × ByteArray) => intconv_ParseUint.p43 k x.1 x.2.1 x.2.2.1 x.2.2.2.1 x.2.2.2.2⟩, ⟨15, s15, fun k (x : ByteArray × Int × Int × Bool × ByteArray) => intconv_ParseUint.p15 k x.1 x.2.1 x.2.2.1 x.2.2.2.1 x.2.2.2.2⟩, ⟨51, s51, fun k (x : ByteArray × Int × Int × Bool × ByteArray) => intconv_ParseUint.p51 k x.1 x.2.1 x.2.2.1 x.2.2.2.1 x.2.2.2.2⟩, ⟨49, s49, fun k (x : Unit) => intconv_ParseUint.p49 k x⟩, ⟨31, s31, fun k (x : ByteArray × Int × Bool × ByteArray) => intconv_ParseUint.p31 k x.1 x.2.1 x.2.2.1 x.2.2.2⟩, ⟨65, s65, fun k (x : ByteArray × Int × Int × Bool × ByteArray × Int) => intconv_ParseUint.p65 k x.1 x.2.1 x.2.2.1 x.2.2.2.1 x.2.2.2.2.1 x.2.2.2.2.2⟩, ⟨37, s37, fun k (x : ByteArray × Int × Bool × ByteArray) => intconv_ParseUint.p37 k x.1 x.2.1 x.2.2.1 x.2.2.2⟩, ⟨6, s6, fun k (x : Int × Bool × ByteArray × Int × Int × Bool × Int × LX × Int × Int) => intconv_ParseUint.p6 k x.1 x.2.1 x.2.2.1 x.2.2.2.1 x.2.2.2.2.1 x.2.2.2.2.2.1 x.2.2.2.2.2.2.1 x.2.2.2.2.2.2.2.1 x.2.2.2.2.2.2.2.2.1 x.2.2.2.2.2.2.2.2.2⟩, ⟨21, s21, fun k (x : ByteArray × Int × Bool × ByteArray) => intconv_ParseUint.p21 k x.1 x.2.1 x.2.2.1 x.2.2.2⟩, ⟨85, s85, fun k (x : Int × Bool × ByteArray × Int × Int × Bool × Int × Int × LX × Int × Int) => intconv_ParseUint.p85 k x.1 x.2.1 x.2.2.1 x.2.2.2.1 x.2.2.2.2.1 x.2.2.2.2.2.1 x.2.2.2.2.2.2.1 x.2.2.2.2.2.2.2.1 x.2.2.2.2.2.2.2.2.1 x.2.2.2.2.2.2.2.2.2.1 x.2.2.2.2.2.2.2.2.2.2⟩, ⟨117, s117, fun k (x : Int) => intconv_ParseUint.p117 k x⟩, ⟨107, s107, fun k (x : Int) => intconv_ParseUint.p107 k x⟩, ⟨89, s89, fun k (x : Int × Bool × ByteArray × Int × Int × Bool × Int × Int × LX × Int × Int) => intconv_ParseUint.p89 k x.1 x.2.1 x.2.2.1 x.2.2.2.1 x.2.2.2.2.1 x.2.2.2.2.2.1 x.2.2.2.2.2.2.1 x.2.2.2.2.2.2.2.1 x.2.2.2.2.2.2.2.2.1 x.2.2.2.2.2.2.2.2.2.1 x.2.2.2.2.2.2.2.2.2.2⟩, ⟨79, s79, fun k (x : Unit) => intconv_ParseUint.p79 k x⟩]
def fns : Nat → List (FuncId × FS) := fun k => [(162, ⟨[(.int .u8)], [(.int .u8)], fun (x : Int) => intconv_lower.f k x⟩), (163, ⟨[.str], [.bool], fun (x : ByteArray) => intconv_underscoreOK.f k x⟩)]
def fs (k : Nat) : FS := ⟨[.str, (.int .i64), (.int .i64)], [(.int .u64), .nilI], fun (x : ByteArray × Int × Int) => intconv_ParseUint.f k x.1 x.2.1 x.2.2⟩
theorem ok : FnOk Tryz.prog 150 172 Tryz.f150.results.toList (Tryz.f150.body.getD .skip) 3 := ⟨⟨Tryz.f150, by kernel_rfl, by kernel_rfl, by kernel_rfl, rfl, by kernel_rfl⟩, by kernel_rfl, by decide⟩
theorem c (k : Nat) : Contract Tryz.prog 150 (fs k) :=
  fn_sound (ps := [.str, (.int .i64), (.int .i64)]) (rs := [(.int .u64), .nilI]) (pts := ptL) (fns := fns) (fgs := fgs0) (fws := fws0) (tys := tyTab) (main := fun k (x : ByteArray × Int × Int) => intconv_ParseUint.f k x.1 x.2.1 x.2.2) ok mix tyOk ⟨⟨rfl, fun _ => rfl, fun k x => by kernel_rfl⟩, ⟨rfl, fun _ => rfl, fun k x => by kernel_rfl⟩, ⟨rfl, fun _ => rfl, fun k x => by kernel_rfl⟩, ⟨rfl, fun _ => rfl, fun k x => by kernel_rfl⟩, ⟨rfl, fun _ => rfl, fun k x => by kernel_rfl⟩, ⟨rfl, fun _ => rfl, fun k x => by kernel_rfl⟩, ⟨rfl, fun _ => rfl, fun k x => by kernel_rfl⟩, ⟨rfl, fun _ => rfl, fun k x => by kernel_rfl⟩, ⟨rfl, fun _ => rfl, fun k x => by kernel_rfl⟩, ⟨rfl, fun _ => rfl, fun k x => by kernel_rfl⟩, ⟨rfl, fun _ => rfl, fun k x => by kernel_rfl⟩, ⟨rfl, fun _ => rfl, fun k x => by kernel_rfl⟩, ⟨rfl, fun _ => rfl, fun k x => by kernel_rfl⟩, ⟨rfl, fun _ => rfl, fun k x => by kernel_rfl⟩, trivial⟩ (fun k x => by kernel_rfl) (fun k => ⟨⟨intconv_lower.c k, intconv_underscoreOK.c k, trivial⟩, trivial, trivial⟩) k
end intconv_ParseUint

namespace intconv_ParseInt
def s21 : PSig := ⟨0, [], [(0, .val .str), (1, .val (.int .i64)), (2, .val (.int .i64)), (8, .val .bool)]⟩
def s33 : PSig := ⟨0, [], [(2, .val (.int .i64)), (8, .val .bool), (9, .val (.int .u64))]⟩
def s39 : PSig := ⟨0, [], [(8, .val .bool), (9, .val (.int .u64)), (10, .val (.int .u64))]⟩
def s43 : PSig := ⟨0, [], [(8, .val .bool), (9, .val (.int .u64))]⟩
def s49 : PSig := ⟨0, [], [(11, .val (.int .i64))]⟩
def ptL : List (Pt (TD [(.int .i64), .nilI])) := [⟨21, s21, fun k (x : ByteArray × Int × Int × Bool) => intconv_ParseInt.p21 k x.1 x.2.1 x.2.2.1 x.2.2.2⟩, ⟨33, s33, fun k (x : Int × Bool × Int) => intconv_ParseInt.p33 k x.1 x.2.1 x.2.2⟩, ⟨39, s39, fun k (x : Bool × Int × Int) => intconv_ParseInt.p39 k x.1 x.2.1 x.2.2⟩, ⟨43, s43, fun k (x : Bool × Int) => intconv_ParseInt.p43 k x.1 x.2⟩, ⟨49, s49, fun k (x : Int) => intconv_ParseInt.p49 k x⟩]
def fns : Nat → List (FuncId × FS) := fun k => [(150, ⟨[.str, (.int .i64), (.int .i64)], [(.int .u64), .nilI], fun (x : ByteArray × Int × Int) => intconv_ParseUint.f k x.1 x.2.1 x.2.2⟩)]
def fs (k : Nat) : FS := ⟨[.str, (.int .i64), (.int .i64)], [(.int .i64), .nilI], fun (x : ByteArray × Int × Int) => intconv_ParseInt.f k x.1 x.2.1 x.2.2⟩
theorem ok : FnOk Tryz.prog 138 73 Tryz.f138.results.toList (Tryz.f138.body.getD .skip) 3 := ⟨⟨Tryz.f138, by kernel_rfl, by kernel_rfl, by kernel_rfl, rfl, by kernel_rfl⟩, by kernel_rfl, by decide⟩
theorem c (k : Nat) : Contract Tryz.prog 138 (fs k) :=
  fn_sound (ps := [.str, (.int .i64), (.int .i64)]) (rs := [(.int .i64), .nilI]) (pts := ptL) (fns := fns) (fgs := fgs0) (fws := fws0) (tys := tyTab) (main := fun k (x : ByteArray × Int × Int) => intconv_ParseInt.f k x.1 x.2.1 x.2.2) ok mix tyOk ⟨⟨rfl, fun _ => rfl, fun k x => by kernel_rfl⟩, ⟨rfl, fun _ => rfl, fun k x => by kernel_rfl⟩, ⟨rfl, fun _ => rfl, fun k x => by kernel_rfl⟩, ⟨rfl, fun _ => rfl, fun k x => by kernel_rfl⟩, ⟨rfl, fun _ => rfl, fun k x => by kernel_rfl⟩, trivial⟩ (fun k x => by kernel_rfl) (fun k => ⟨⟨intconv_ParseUint.c k, trivial⟩, trivial, trivial⟩) k
end intconv_ParseInt

namespace intconv_Atoi
def s11 : PSig := ⟨0, [], [(0, .val .str), (5, .val .str)]⟩
def s0 : PSig := ⟨0, [], [(5, .val .str), (6, .val (.int .i64)), (47, .val (.list (.int .u8))), (48, .val (.int .i64)), (49, .val (.int .i64))]⟩
def s41 : PSig := ⟨0, [], [(0, .val .str)]⟩
def s39 : PSig := ⟨0, [], [(6, .val (.int .i64))]⟩
def ptL : List (Pt (TD [(.int .i64), .nilI])) := [⟨11, s11, fun k (x : ByteArray × ByteArray) => intconv_Atoi.p11 k x.1 x.2⟩, ⟨0, s0, fun k (x : ByteArray × Int × LX × Int × Int) => intconv_Atoi.p0 k x.1 x.2.1 x.2.2.1 x.2.2.2.1 x.2.2.2.2⟩, ⟨41, s41, fun k (x : ByteArray) => intconv_Atoi.p41 k x⟩, ⟨39, s39, fun k (x : Int) => intconv_Atoi.p39 k x⟩]
def fns : Nat → List (FuncId × FS) := fun k => [(138, ⟨[.str, (.int .i64), (.int .i64)], [(.int .i64), .nilI], fun (x : ByteArray × Int × Int) => intconv_ParseInt.f k x.1 x.2.1 x.2.2⟩)]
def fs (k : Nat) : FS := ⟨[.str], [(.int .i64), .nilI], fun (x : ByteArray) => intconv_Atoi.f k x⟩
theorem ok : FnOk Tryz.prog 120 77 Tryz.f120.results.toList (Tryz.f120.body.getD .skip) 1 := ⟨⟨Tryz.f120, by kernel_rfl, by kernel_rfl, by kernel_rfl, rfl, by kernel_rfl⟩, by kernel_rfl, by decide⟩
theorem c (k : Nat) : Contract Tryz.prog 120 (fs k) :=
  fn_sound (ps := [.str]) (rs := [(.int .i64), .nilI]) (pts := ptL) (fns := fns) (fgs := fgs0) (fws := fws0) (tys := tyTab) (main := fun k (x : ByteArray) => intconv_Atoi.f k x) ok mix tyOk ⟨⟨rfl, fun _ => rfl, fun k x => by kernel_rfl⟩, ⟨rfl, fun _ => rfl, fun k x => by kernel_rfl⟩, ⟨rfl, fun _ => rfl, fun k x => by kernel_rfl⟩, ⟨rfl, fun _ => rfl, fun k x => by kernel_rfl⟩, trivial⟩ (fun k x => by kernel_rfl) (fun k => ⟨⟨intconv_ParseInt.c k, trivial⟩, trivial, trivial⟩) k
end intconv_Atoi

namespace stringslite_Clone
def ptL : List (Pt (TD [.str])) := []
def fs (k : Nat) : FS := ⟨[.str], [.str], fun (x : ByteArray) => stringslite_Clone.f k x⟩
theorem ok : FnOk Tryz.prog 151 18 Tryz.f151.results.toList (Tryz.f151.body.getD .skip) 1 := ⟨⟨Tryz.f151, by kernel_rfl, by kernel_rfl, by kernel_rfl, rfl, by kernel_rfl⟩, by kernel_rfl, by decide⟩
theorem c (k : Nat) : Contract Tryz.prog 151 (fs k) :=
  fn_sound (ps := [.str]) (rs := [.str]) (pts := ptL) (fns := fns0) (fgs := fgs0) (fws := fws0) (tys := tyTab) (main := fun k (x : ByteArray) => stringslite_Clone.f k x) ok mix tyOk trivial (fun k x => by kernel_rfl) (fun _ => ⟨trivial, trivial, trivial⟩) k
end stringslite_Clone

namespace intconv_small
def ptL : List (Pt (TD [.str])) := []
def fs (k : Nat) : FS := ⟨[(.int .i64)], [.str], fun (x : Int) => intconv_small.f k x⟩
theorem ok : FnOk Tryz.prog 154 15 Tryz.f154.results.toList (Tryz.f154.body.getD .skip) 1 := ⟨⟨Tryz.f154, by kernel_rfl, by kernel_rfl, by kernel_rfl, rfl, by kernel_rfl⟩, by kernel_rfl, by decide⟩
theorem c (k : Nat) : Contract Tryz.prog 154 (fs k) :=
  fn_sound (ps := [(.int .i64)]) (rs := [.str]) (pts := ptL) (fns := fns0) (fgs := fgs0) (fws := fws0) (tys := tyTab) (main := fun k (x : Int) => intconv_small.f k x) ok mix tyOk trivial (fun k x => by kernel_rfl) (fun _ => ⟨trivial, trivial, trivial⟩) k
end intconv_small

namespace bits_Len64
def s9 : PSig := ⟨0, [], [(0, .val (.int .u64)), (2, .val (.int .i64))]⟩
def s15 : PSig := ⟨0, [], [(0, .val (.int .u64)), (2, .val (.int .i64))]⟩
def s21 : PSig := ⟨0, [], [(0, .val (.int .u64)), (2, .val (.int .i64))]⟩
def ptL : List (Pt (TD [(.int .i64)])) := [⟨9, s9, fun k (x : Int × Int) => bits_Len64.p9 k x.1 x.2⟩, ⟨15, s15, fun k (x : Int × Int) => bits_Len64.p15 k x.1 x.2⟩, ⟨21, s21, fun k (x : Int × Int) => bits_Len64.p21 k x.1 x.2⟩]
def fs (k : Nat) : FS := ⟨[(.int .u64)], [(.int .i64)], fun (x : Int) => bits_Len64.f k x⟩
theorem ok : FnOk Tryz.prog 165 25 Tryz.f165.results.toList (Tryz.f165.body.getD .skip) 1 := ⟨⟨Tryz.f165, by kernel_rfl, by kernel_rfl, by kernel_rfl, rfl, by kernel_rfl⟩, by kernel_rfl, by decide⟩
theorem c (k : Nat) : Contract Tryz.prog 165 (fs k) :=
  fn_sound (ps := [(.int .u64)]) (rs := [(.int .i64)]) (pts := ptL) (fns := fns0) (fgs := fgs0) (fws := fws0) (tys := tyTab) (main := fun k (x : Int) => bits_Len64.f k x) ok mix tyOk ⟨⟨rfl, fun _ => rfl, fun k x => by kernel_rfl⟩, ⟨rfl, fun _ => rfl, fun k x => by kernel_rfl⟩, ⟨rfl, fun _ => rfl, fun k x => by kernel_rfl⟩, trivial⟩ (fun k x => by kernel_rfl) (fun _ => ⟨trivial, trivial, trivial⟩) k
end bits_Len64

namespace intconv_log10Pow2
def ptL : List (Pt (TD [(.int .i64)])) := []
def fs (k : Nat) : FS := ⟨[(.int .i64)], [(.int .i64)], fun (x : Int) => intconv_log10Pow2.f k x⟩
theorem ok : FnOk Tryz.prog 164 6 Tryz.f164.results.toList (Tryz.f164.body.getD .skip) 1 := ⟨⟨Tryz.f164, by kernel_rfl, by kernel_rfl, by kernel_rfl, rfl, by kernel_rfl⟩, by kernel_rfl, by decide⟩
theorem c (k : Nat) : Contract Tryz.prog 164 (fs k) :=
  fn_sound (ps := [(.int .i64)]) (rs := [(.int .i64)]) (pts := ptL) (fns := fns0) (fgs := fgs0) (fws := fws0) (tys := tyTab) (main := fun k (x : Int) => intconv_log10Pow2.f k x) ok mix tyOk trivial (fun k x => by kernel_rfl) (fun _ => ⟨trivial, trivial, trivial⟩) k
end intconv_log10Pow2

namespace intconv_bool2_int_
def ptL : List (Pt (TD [(.int .i64)])) := []
def fs (k : Nat) : FS := ⟨[.bool], [(.int .i64)], fun (x : Bool) => intconv_bool2_int_.f k x⟩
theorem ok : FnOk Tryz.prog 166 4 Tryz.f166.results.toList (Tryz.f166.body.getD .skip) 1 := ⟨⟨Tryz.f166, by kernel_rfl, by kernel_rfl, by kernel_rfl, rfl, by kernel_rfl⟩, by kernel_rfl, by decide⟩
theorem c (k : Nat) : Contract Tryz.prog 166 (fs k) :=
  fn_sound (ps := [.bool]) (rs := [(.int .i64)]) (pts := ptL) (fns := fns0) (fgs := fgs0) (fws := fws0) (tys := tyTab) (main := fun k (x : Bool) => intconv_bool2_int_.f k x) ok mix tyOk trivial (fun k x => by kernel_rfl) (fun _ => ⟨trivial, trivial, trivial⟩) k
end intconv_bool2_int_

namespace intconv_isPowerOfTwo
def ptL : List (Pt (TD [.bool])) := []
def fs (k : Nat) : FS := ⟨[(.int .i64)], [.bool], fun (x : Int) => intconv_isPowerOfTwo.f k x⟩
theorem ok : FnOk Tryz.prog 167 8 Tryz.f167.results.toList (Tryz.f167.body.getD .skip) 1 := ⟨⟨Tryz.f167, by kernel_rfl, by kernel_rfl, by kernel_rfl, rfl, by kernel_rfl⟩, by kernel_rfl, by decide⟩
theorem c (k : Nat) : Contract Tryz.prog 167 (fs k) :=
  fn_sound (ps := [(.int .i64)]) (rs := [.bool]) (pts := ptL) (fns := fns0) (fgs := fgs0) (fws := fws0) (tys := tyTab) (main := fun k (x : Int) => intconv_isPowerOfTwo.f k x) ok mix tyOk trivial (fun k x => by kernel_rfl) (fun _ => ⟨trivial, trivial, trivial⟩) k
end intconv_isPowerOfTwo

namespace bits_TrailingZeros32
def ptL : List (Pt (TD [(.int .i64)])) := []
def fs (k : Nat) : FS := ⟨[(.int .u32)], [(.int .i64)], fun (x : Int) => bits_TrailingZeros32.f k x⟩
theorem ok : FnOk Tryz.prog 170 14 Tryz.f170.results.toList (Tryz.f170.body.getD .skip) 1 := ⟨⟨Tryz.f170, by kernel_rfl, by kernel_rfl, by kernel_rfl, rfl, by kernel_rfl⟩, by kernel_rfl, by decide⟩
theorem c (k : Nat) : Contract Tryz.prog 170 (fs k) :=
  fn_sound (ps := [(.int .u32)]) (rs := [(.int .i64)]) (pts := ptL) (fns := fns0) (fgs := fgs0) (fws := fws0) (tys := tyTab) (main := fun k (x : Int) => bits_TrailingZeros32.f k x) ok mix tyOk trivial (fun k x => by kernel_rfl) (fun _ => ⟨trivial, trivial, trivial⟩) k
end bits_TrailingZeros32

namespace bits_TrailingZeros64
def ptL : List (Pt (TD [(.int .i64)])) := []
def fs (k : Nat) : FS := ⟨[(.int .u64)], [(.int .i64)], fun (x : Int) => bits_TrailingZeros64.f k x⟩
theorem ok : FnOk Tryz.prog 171 14 Tryz.f171.results.toList (Tryz.f171.body.getD .skip) 1 := ⟨⟨Tryz.f171, by kernel_rfl, by kernel_rfl, by kernel_rfl, rfl, by kernel_rfl⟩, by kernel_rfl, by decide⟩
theorem c (k : Nat) : Contract Tryz.prog 171 (fs k) :=
  fn_sound (ps := [(.int .u64)]) (rs := [(.int .i64)]) (pts := ptL) (fns := fns0) (fgs := fgs0) (fws := fws0) (tys := tyTab) (main := fun k (x : Int) => bits_TrailingZeros64.f k x) ok mix tyOk trivial (fun k x => by kernel_rfl) (fun _ => ⟨trivial, trivial, trivial⟩) k
end bits_TrailingZeros64

namespace bits_TrailingZeros
def ptL : List (Pt (TD [(.int .i64)])) := []
def fns : Nat → List (FuncId × FS) := fun k => [(171, ⟨[(.int .u64)], [(.int .i64)], fun (x : Int) => bits_TrailingZeros64.f k x⟩)]
def fs (k : Nat) : FS := ⟨[(.int .u64)], [(.int .i64)], fun (x : Int) => bits_TrailingZeros.f k x⟩
theorem ok : FnOk Tryz.prog 168 8 Tryz.f168.results.toList (Tryz.f168.body.getD .skip) 1 := ⟨⟨Tryz.f168, by kernel_rfl, by kernel_rfl, by kernel_rfl, rfl, by kernel_rfl⟩, by kernel_rfl, by decide⟩
theorem c (k : Nat) : Contract Tryz.prog 168 (fs k) :=
  fn_sound (ps := [(.int .u64)]) (rs := [(.int .i64)]) (pts := ptL) (fns := fns) (fgs := fgs0) (fws := fws0) (tys := tyTab) (main := fun k (x : Int) => bits_TrailingZeros.f k x) ok mix tyOk trivial (fun k x => by kernel_rfl) (fun k => ⟨⟨bits_TrailingZeros64.c k, trivial⟩, trivial, trivial⟩) k
end bits_TrailingZeros

namespace intconv_FormatInt
def s9 : PSig := ⟨0, [], [(0, .val (.int .i64))]⟩
def ptL : List (Pt (TD [.str])) := [⟨9, s9, fun k (x : Int) => intconv_FormatInt.p9 k x⟩]
def fns : Nat → List (FuncId × FS) := fun k => [(154, ⟨[(.int .i64)], [.str], fun (x : Int) => intconv_small.f k x⟩)]
def fs (k : Nat) : FS := ⟨[(.int .i64), (.int .i64)], [.str], fun (x : Int × Int) => intconv_FormatInt.f k x.1 x.2⟩
theorem ok : FnOk Tryz.prog 145 54 Tryz.f145.results.toList (Tryz.f145.body.getD .skip) 2 := ⟨⟨Tryz.f145, by kernel_rfl, by kernel_rfl, by kernel_rfl, rfl, by kernel_rfl⟩, by kernel_rfl, by decide⟩
theorem c (k : Nat) : Contract Tryz.prog 145 (fs k) :=
  fn_sound (ps := [(.int .i64), (.int .i64)]) (rs := [.str]) (pts := ptL) (fns := fns) (fgs := fgs0) (fws := fws0) (tys := tyTab) (main := fun k (x : Int × Int) => intconv_FormatInt.f k x.1 x.2) ok mix tyOk ⟨⟨rfl, fun _ => rfl, fun k x => by kernel_rfl⟩, trivial⟩ (fun k x => by kernel_rfl) (fun k => ⟨⟨intconv_small.c k, trivial⟩, trivial, trivial⟩) k
end intconv_FormatInt

namespace intconv_Itoa
def ptL : List (Pt (TD [.str])) := []
def fns : Nat → List (FuncId × FS) := fun k => [(145, ⟨[(.int .i64), (.int .i64)], [.str], fun (x : Int × Int) => intconv_FormatInt.f k x.1 x.2⟩)]
def fs (k : Nat) : FS := ⟨[(.int .i64)], [.str], fun (x : Int) => intconv_Itoa.f k x⟩
theorem ok : FnOk Tryz.prog 130 5 Tryz.f130.results.toList (Tryz.f130.body.getD .skip) 1 := ⟨⟨Tryz.f130, by kernel_rfl, by kernel_rfl, by kernel_rfl, rfl, by kernel_rfl⟩, by kernel_rfl, by decide⟩
theorem c (k : Nat) : Contract Tryz.prog 130 (fs k) :=
  fn_sound (ps := [(.int .i64)]) (rs := [.str]) (pts := ptL) (fns := fns) (fgs := fgs0) (fws := fws0) (tys := tyTab) (main := fun k (x : Int) => intconv_Itoa.f k x) ok mix tyOk trivial (fun k x => by kernel_rfl) (fun k => ⟨⟨intconv_FormatInt.c k, trivial⟩, trivial, trivial⟩) k
end intconv_Itoa

namespace strconv_Itoa
theorem c (k : Nat) : Contract Tryz.prog 95 ⟨[.int .i64], [.str], fun (x : Int) => strconv_Itoa.f k x⟩ := itoa_contract (fun _ => rfl)
end strconv_Itoa

namespace strconv_Atoi
def ptL : List (Pt (TD [(.int .i64), .nilI])) := []
def fns : Nat → List (FuncId × FS) := fun k => [(120, ⟨[.str], [(.int .i64), .nilI], fun (x : ByteArray) => intconv_Atoi.f k x⟩)]
def fs (k : Nat) : FS := ⟨[.str], [(.int .i64), .nilI], fun (x : ByteArray) => strconv_Atoi.f k x⟩
theorem ok : FnOk Tryz.prog 87 18 Tryz.f87.results.toList (Tryz.f87.body.getD .skip) 1 := ⟨⟨Tryz.f87, by kernel_rfl, by kernel_rfl, by kernel_rfl, rfl, by kernel_rfl⟩, by kernel_rfl, by decide⟩
theorem c (k : Nat) : Contract Tryz.prog 87 (fs k) :=
  fn_sound (ps := [.str]) (rs := [(.int .i64), .nilI]) (pts := ptL) (fns := fns) (fgs := fgs0) (fws := fws0) (tys := tyTab) (main := fun k (x : ByteArray) => strconv_Atoi.f k x) ok mix tyOk trivial (fun k x => by kernel_rfl) (fun k => ⟨⟨intconv_Atoi.c k, trivial⟩, trivial, trivial⟩) k
end strconv_Atoi

namespace approx_exponent
def s9 : PSig := ⟨0, [], [(0, .val .str), (4, .val (.int .i64))]⟩
def s11 : PSig := ⟨0, [], [(0, .val .str), (4, .val (.int .i64))]⟩
def s17 : PSig := ⟨0, [], []⟩
def ptL : List (Pt (TD [(.int .i64), .bool])) := [⟨9, s9, fun k (x : ByteArray × Int) => approx_exponent.p9 k x.1 x.2⟩, ⟨11, s11, fun k (x : ByteArray × Int) => approx_exponent.p11 k x.1 x.2⟩, ⟨17, s17, fun k (x : Unit) => approx_exponent.p17 k x⟩]
def fns : Nat → List (FuncId × FS) := fun k => [(85, ⟨[.str, .str], [.bool], fun (x : ByteArray × ByteArray) => strings_HasPrefix.f k x.1 x.2⟩), (43, ⟨[.str], [.str, .str], fun (x : ByteArray) => approx_digits.f k x⟩), (86, ⟨[.str, .str], [.str], fun (x : ByteArray × ByteArray) => strings_TrimLeft.f k x.1 x.2⟩), (87, ⟨[.str], [(.int .i64), .nilI], fun (x : ByteArray) => strconv_Atoi.f k x⟩)]
def fs (k : Nat) : FS := ⟨[.str], [(.int .i64), .bool], fun (x : ByteArray) => approx_exponent.f k x⟩
theorem ok : FnOk Tryz.prog 44 46 Tryz.f44.results.toList (Tryz.f44.body.getD .skip) 1 := ⟨⟨Tryz.f44, by kernel_rfl, by kernel_rfl, by kernel_rfl, rfl, by kernel_rfl⟩, by kernel_rfl, by decide⟩
theorem c (k : Nat) : Contract Tryz.prog 44 (fs k) :=
  fn_sound (ps := [.str]) (rs := [(.int .i64), .bool]) (pts := ptL) (fns := fns) (fgs := fgs0) (fws := fws0) (tys := tyTab) (main := fun k (x : ByteArray) => approx_exponent.f k x) ok mix tyOk ⟨⟨rfl, fun _ => rfl, fun k x => by kernel_rfl⟩, ⟨rfl, fun _ => rfl, fun k x => by kernel_rfl⟩, ⟨rfl, fun _ => rfl, fun k x => by kernel_rfl⟩, trivial⟩ (fun k x => by kernel_rfl) (fun k => ⟨⟨strings_HasPrefix.c k, approx_digits.c k, strings_TrimLeft.c k, strconv_Atoi.c k, trivial⟩, trivial, trivial⟩) k
end approx_exponent

namespace nat_trim
def s0 : PSig := ⟨0, [], [(0, .val tL), (3, .val (.int .i64))]⟩
def s9 : PSig := ⟨0, [], [(0, .val tL), (3, .val (.int .i64))]⟩
def ptL : List (Pt (TD [tL])) := [⟨0, s0, fun k (x : LX × Int) => nat_trim.p0 k x.1 x.2⟩, ⟨9, s9, fun k (x : LX × Int) => nat_trim.p9 k x.1 x.2⟩]
def fs (k : Nat) : FS := ⟨[tL], [tL], fun (x : LX) => nat_trim.f k x⟩
theorem ok : FnOk Tryz.prog 97 21 Tryz.f97.results.toList (Tryz.f97.body.getD .skip) 1 := ⟨⟨Tryz.f97, by kernel_rfl, by kernel_rfl, by kernel_rfl, rfl, by kernel_rfl⟩, by kernel_rfl, by decide⟩
theorem c (k : Nat) : Contract Tryz.prog 97 (fs k) :=
  fn_sound (ps := [tL]) (rs := [tL]) (pts := ptL) (fns := fns0) (fgs := fgs0) (fws := fws0) (tys := tyTab) (main := fun k (x : LX) => nat_trim.f k x) ok mix tyOk ⟨⟨rfl, fun _ => rfl, fun k x => by kernel_rfl⟩, ⟨rfl, fun _ => rfl, fun k x => by kernel_rfl⟩, trivial⟩ (fun k x => by kernel_rfl) (fun _ => ⟨trivial, trivial, trivial⟩) k
end nat_trim

namespace nat_own
def ptL : List (Pt (TD [tL])) := []
def fns : Nat → List (FuncId × FS) := fun k => [(97, ⟨[tL], [tL], fun (x : LX) => nat_trim.f k x⟩)]
def fs (k : Nat) : FS := ⟨[tL], [tL], fun (x : LX) => nat_own.f k x⟩
theorem ok : FnOk Tryz.prog 56 16 Tryz.f56.results.toList (Tryz.f56.body.getD .skip) 1 := ⟨⟨Tryz.f56, by kernel_rfl, by kernel_rfl, by kernel_rfl, rfl, by kernel_rfl⟩, by kernel_rfl, by decide⟩
theorem c (k : Nat) : Contract Tryz.prog 56 (fs k) :=
  fn_sound (ps := [tL]) (rs := [tL]) (pts := ptL) (fns := fns) (fgs := fgs0) (fws := fws0) (tys := tyTab) (main := fun k (x : LX) => nat_own.f k x) ok mix tyOk trivial (fun k x => by kernel_rfl) (fun k => ⟨⟨nat_trim.c k, trivial⟩, trivial, trivial⟩) k
def fw (k : Nat) : FW := ⟨[tL], 84, (.int .u32), false, fun (x : LX) => nat_own.f k x⟩
def ptW : List (Pt (List (Ty.D (.int .u32)))) := []
theorem cw (k : Nat) : ContractW Tryz.prog 56 (fw k) :=
  fn_soundW (ps := [tL]) (e := 84) (t := (.int .u32)) (bx := false) (pts := ptW) (fns := fns) (fgs := fgs0) (fws := fws0) (tys := tyTab) (main := fun k (x : LX) => nat_own.f k x) ok mix tyOk trivial (fun k x => by kernel_rfl) (fun k => ⟨⟨nat_trim.c k, trivial⟩, trivial, trivial⟩) k
end nat_own

namespace nat_Parse
def s5 : PSig := ⟨0, [], []⟩
def s9 : PSig := ⟨0, [], []⟩
def s11 : PSig := ⟨0, [], [(0, .val .str), (1, .val (.int .i64))]⟩
def s0 : PSig := ⟨0, [(84, (.int .u32), false)], [(0, .val .str), (1, .val (.int .i64)), (6, .own 0), (31, .val (.int .i64)), (32, .val (.int .i64))]⟩
def s23 : PSig := ⟨0, [], []⟩
def s4 : PSig := ⟨0, [(84, (.int .u32), false)], [(0, .val .str), (1, .val (.int .i64)), (6, .own 0), (9, .val (.int .u64)), (31, .val (.int .i64)), (32, .val (.int .i64)), (59, .val (.int .i64)), (60, .val (.int .i64))]⟩
def s45 : PSig := ⟨0, [(84, (.int .u32), false)], [(0, .val .str), (1, .val (.int .i64)), (6, .own 0), (31, .val (.int .i64)), (32, .val (.int .i64))]⟩
def ptL : List (Pt (TD [tL, (.int .i64)])) := [⟨5, s5, fun k (x : Unit) => nat_Parse.p5 k x⟩, ⟨9, s9, fun k (x : Unit) => nat_Parse.p9 k x⟩, ⟨11, s11, fun k (x : ByteArray × Int) => nat_Parse.p11 k x.1 x.2⟩, ⟨0, s0, fun k (x : LX × ByteArray × Int × Int × Int) => nat_Parse.p0 k x.1 x.2.1 x.2.2.1 x.2.2.2.1 x.2.2.2.2⟩, ⟨23, s23, fun k (x : Unit) => nat_Parse.p23 k x⟩, ⟨4, s4, fun k (x : LX × ByteArray × Int × Int × Int × Int × Int × Int) => nat_Parse.p4 k x.1 x.2.1 x.2.2.1 x.2.2.2.1 x.2.2.2.2.1 x.2.2.2.2.2.1 x.2.2.2.2.2.2.1 x.2.2.2.2.2.2.2⟩, ⟨45, s45, fun k (x : LX × ByteArray × Int × Int × Int) => nat_Parse.p45 k x.1 x.2.1 x.2.2.1 x.2.2.2.1 x.2.2.2.2⟩]
def fns : Nat → List (FuncId × FS) := fun k => [(56, ⟨[tL], [tL], fun (x : LX) => nat_own.f k x⟩)]
def fs (k : Nat) : FS := ⟨[.str, (.int .i64)], [tL, (.int .i64)], fun (x : ByteArray × Int) => nat_Parse.f k x.1 x.2⟩
theorem ok : FnOk Tryz.prog 88 91 Tryz.f88.results.toList (Tryz.f88.body.getD .skip) 2 := ⟨⟨Tryz.f88, by kernel_rfl, by kernel_rfl, by kernel_rfl, rfl, by kernel_rfl⟩, by kernel_rfl, by decide⟩
theorem c (k : Nat) : Contract Tryz.prog 88 (fs k) :=
  fn_sound (ps := [.str, (.int .i64)]) (rs := [tL, (.int .i64)]) (pts := ptL) (fns := fns) (fgs := fgs0) (fws := fws0) (tys := tyTab) (main := fun k (x : ByteArray × Int) => nat_Parse.f k x.1 x.2) ok mix tyOk ⟨⟨rfl, fun _ => rfl, fun k x => by kernel_rfl⟩, ⟨rfl, fun _ => rfl, fun k x => by kernel_rfl⟩, ⟨rfl, fun _ => rfl, fun k x => by kernel_rfl⟩, ⟨rfl, fun _ => rfl, fun k x => by kernel_rfl⟩, ⟨rfl, fun _ => rfl, fun k x => by kernel_rfl⟩, ⟨rfl, fun _ => rfl, fun k x => by kernel_rfl⟩, ⟨rfl, fun _ => rfl, fun k x => by kernel_rfl⟩, trivial⟩ (fun k x => by kernel_rfl) (fun k => ⟨⟨nat_own.c k, trivial⟩, trivial, trivial⟩) k
end nat_Parse

namespace nat_Of
def ptL : List (Pt (TD [tL])) := []
def fns : Nat → List (FuncId × FS) := fun k => [(56, ⟨[tL], [tL], fun (x : LX) => nat_own.f k x⟩)]
def fs (k : Nat) : FS := ⟨[(.int .u64)], [tL], fun (x : Int) => nat_Of.f k x⟩
theorem ok : FnOk Tryz.prog 26 10 Tryz.f26.results.toList (Tryz.f26.body.getD .skip) 1 := ⟨⟨Tryz.f26, by kernel_rfl, by kernel_rfl, by kernel_rfl, rfl, by kernel_rfl⟩, by kernel_rfl, by decide⟩
theorem c (k : Nat) : Contract Tryz.prog 26 (fs k) :=
  fn_sound (ps := [(.int .u64)]) (rs := [tL]) (pts := ptL) (fns := fns) (fgs := fgs0) (fws := fws0) (tys := tyTab) (main := fun k (x : Int) => nat_Of.f k x) ok mix tyOk trivial (fun k x => by kernel_rfl) (fun k => ⟨⟨nat_own.c k, trivial⟩, trivial, trivial⟩) k
end nat_Of

namespace nat_Norm
def ptL : List (Pt (TD [tL])) := []
def fns : Nat → List (FuncId × FS) := fun k => [(56, ⟨[tL], [tL], fun (x : LX) => nat_own.f k x⟩)]
def fs (k : Nat) : FS := ⟨[tL], [tL], fun (x : LX) => nat_Norm.f k x⟩
theorem ok : FnOk Tryz.prog 102 5 Tryz.f102.results.toList (Tryz.f102.body.getD .skip) 1 := ⟨⟨Tryz.f102, by kernel_rfl, by kernel_rfl, by kernel_rfl, rfl, by kernel_rfl⟩, by kernel_rfl, by decide⟩
theorem c (k : Nat) : Contract Tryz.prog 102 (fs k) :=
  fn_sound (ps := [tL]) (rs := [tL]) (pts := ptL) (fns := fns) (fgs := fgs0) (fws := fws0) (tys := tyTab) (main := fun k (x : LX) => nat_Norm.f k x) ok mix tyOk trivial (fun k x => by kernel_rfl) (fun k => ⟨⟨nat_own.c k, trivial⟩, trivial, trivial⟩) k
end nat_Norm

namespace whole_signed
def s0 : PSig := ⟨0, [(34, tZ, true)], [(0, .val tL), (4, .ptr 0 []), (5, .val (.int .i64)), (10, .val (.list (.int .i64))), (11, .val (.int .i64)), (12, .val (.int .i64))]⟩
def ptL : List (Pt (TD [tZ])) := [⟨0, s0, fun k (x : ZX × LX × Int × LX × Int × Int) => whole_signed.p0 k x.1 x.2.1 x.2.2.1 x.2.2.2.1 x.2.2.2.2.1 x.2.2.2.2.2⟩]
def fns : Nat → List (FuncId × FS) := fun k => [(102, ⟨[tL], [tL], fun (x : LX) => nat_Norm.f k x⟩)]
def fs (k : Nat) : FS := ⟨[tL, (.list (.int .i64))], [tZ], fun (x : LX × LX) => whole_signed.f k x.1 x.2⟩
theorem ok : FnOk Tryz.prog 60 29 Tryz.f60.results.toList (Tryz.f60.body.getD .skip) 2 := ⟨⟨Tryz.f60, by kernel_rfl, by kernel_rfl, by kernel_rfl, rfl, by kernel_rfl⟩, by kernel_rfl, by decide⟩
theorem c (k : Nat) : Contract Tryz.prog 60 (fs k) :=
  fn_sound (ps := [tL, (.list (.int .i64))]) (rs := [tZ]) (pts := ptL) (fns := fns) (fgs := fgs0) (fws := fws0) (tys := tyTab) (main := fun k (x : LX × LX) => whole_signed.f k x.1 x.2) ok mix tyOk ⟨⟨rfl, fun _ => rfl, fun k x => by kernel_rfl⟩, trivial⟩ (fun k x => by kernel_rfl) (fun k => ⟨⟨nat_Norm.c k, trivial⟩, trivial, trivial⟩) k
end whole_signed

namespace whole_Of
def ptL : List (Pt (TD [tZ])) := []
def fns : Nat → List (FuncId × FS) := fun k => [(26, ⟨[(.int .u64)], [tL], fun (x : Int) => nat_Of.f k x⟩), (60, ⟨[tL, (.list (.int .i64))], [tZ], fun (x : LX × LX) => whole_signed.f k x.1 x.2⟩)]
def fs (k : Nat) : FS := ⟨[(.int .i64)], [tZ], fun (x : Int) => whole_Of.f k x⟩
theorem ok : FnOk Tryz.prog 28 15 Tryz.f28.results.toList (Tryz.f28.body.getD .skip) 1 := ⟨⟨Tryz.f28, by kernel_rfl, by kernel_rfl, by kernel_rfl, rfl, by kernel_rfl⟩, by kernel_rfl, by decide⟩
theorem c (k : Nat) : Contract Tryz.prog 28 (fs k) :=
  fn_sound (ps := [(.int .i64)]) (rs := [tZ]) (pts := ptL) (fns := fns) (fgs := fgs0) (fws := fws0) (tys := tyTab) (main := fun k (x : Int) => whole_Of.f k x) ok mix tyOk trivial (fun k x => by kernel_rfl) (fun k => ⟨⟨nat_Of.c k, whole_signed.c k, trivial⟩, trivial, trivial⟩) k
end whole_Of

namespace whole_core
def s0 : PSig := ⟨0, [], [(0, .val tL), (3, .val (.int .i64))]⟩
def s9 : PSig := ⟨0, [], [(0, .val tL), (3, .val (.int .i64))]⟩
def ptL : List (Pt (TD [tL])) := [⟨0, s0, fun k (x : LX × Int) => whole_core.p0 k x.1 x.2⟩, ⟨9, s9, fun k (x : LX × Int) => whole_core.p9 k x.1 x.2⟩]
def fs (k : Nat) : FS := ⟨[tL], [tL], fun (x : LX) => whole_core.f k x⟩
theorem ok : FnOk Tryz.prog 98 22 Tryz.f98.results.toList (Tryz.f98.body.getD .skip) 1 := ⟨⟨Tryz.f98, by kernel_rfl, by kernel_rfl, by kernel_rfl, rfl, by kernel_rfl⟩, by kernel_rfl, by decide⟩
theorem c (k : Nat) : Contract Tryz.prog 98 (fs k) :=
  fn_sound (ps := [tL]) (rs := [tL]) (pts := ptL) (fns := fns0) (fgs := fgs0) (fws := fws0) (tys := tyTab) (main := fun k (x : LX) => whole_core.f k x) ok mix tyOk ⟨⟨rfl, fun _ => rfl, fun k x => by kernel_rfl⟩, ⟨rfl, fun _ => rfl, fun k x => by kernel_rfl⟩, trivial⟩ (fun k x => by kernel_rfl) (fun _ => ⟨trivial, trivial, trivial⟩) k
end whole_core

namespace whole_Sign
def ptL : List (Pt (TD [(.int .i64)])) := []
def fns : Nat → List (FuncId × FS) := fun k => [(98, ⟨[tL], [tL], fun (x : LX) => whole_core.f k x⟩)]
def fs (k : Nat) : FS := ⟨[tZ], [(.int .i64)], fun (x : ZX) => whole_Sign.f k x⟩
theorem ok : FnOk Tryz.prog 57 12 Tryz.f57.results.toList (Tryz.f57.body.getD .skip) 1 := ⟨⟨Tryz.f57, by kernel_rfl, by kernel_rfl, by kernel_rfl, rfl, by kernel_rfl⟩, by kernel_rfl, by decide⟩
theorem c (k : Nat) : Contract Tryz.prog 57 (fs k) :=
  fn_sound (ps := [tZ]) (rs := [(.int .i64)]) (pts := ptL) (fns := fns) (fgs := fgs0) (fws := fws0) (tys := tyTab) (main := fun k (x : ZX) => whole_Sign.f k x) ok mix tyOk trivial (fun k x => by kernel_rfl) (fun k => ⟨⟨whole_core.c k, trivial⟩, trivial, trivial⟩) k
end whole_Sign

namespace whole_Neg
def ptL : List (Pt (TD [tZ])) := []
def fns : Nat → List (FuncId × FS) := fun k => [(57, ⟨[tZ], [(.int .i64)], fun (x : ZX) => whole_Sign.f k x⟩), (60, ⟨[tL, (.list (.int .i64))], [tZ], fun (x : LX × LX) => whole_signed.f k x.1 x.2⟩)]
def fs (k : Nat) : FS := ⟨[tZ], [tZ], fun (x : ZX) => whole_Neg.f k x⟩
theorem ok : FnOk Tryz.prog 58 9 Tryz.f58.results.toList (Tryz.f58.body.getD .skip) 1 := ⟨⟨Tryz.f58, by kernel_rfl, by kernel_rfl, by kernel_rfl, rfl, by kernel_rfl⟩, by kernel_rfl, by decide⟩
theorem c (k : Nat) : Contract Tryz.prog 58 (fs k) :=
  fn_sound (ps := [tZ]) (rs := [tZ]) (pts := ptL) (fns := fns) (fgs := fgs0) (fws := fws0) (tys := tyTab) (main := fun k (x : ZX) => whole_Neg.f k x) ok mix tyOk trivial (fun k x => by kernel_rfl) (fun k => ⟨⟨whole_Sign.c k, whole_signed.c k, trivial⟩, trivial, trivial⟩) k
end whole_Neg

namespace nat_Cmp
def s0 : PSig := ⟨0, [], [(0, .val tL), (1, .val tL), (5, .val (.int .i64))]⟩
def ptL : List (Pt (TD [(.int .i64)])) := [⟨0, s0, fun k (x : LX × LX × Int) => nat_Cmp.p0 k x.1 x.2.1 x.2.2⟩]
def fns : Nat → List (FuncId × FS) := fun k => [(97, ⟨[tL], [tL], fun (x : LX) => nat_trim.f k x⟩)]
def fs (k : Nat) : FS := ⟨[tL, tL], [(.int .i64)], fun (x : LX × LX) => nat_Cmp.f k x.1 x.2⟩
theorem ok : FnOk Tryz.prog 69 45 Tryz.f69.results.toList (Tryz.f69.body.getD .skip) 2 := ⟨⟨Tryz.f69, by kernel_rfl, by kernel_rfl, by kernel_rfl, rfl, by kernel_rfl⟩, by kernel_rfl, by decide⟩
theorem c (k : Nat) : Contract Tryz.prog 69 (fs k) :=
  fn_sound (ps := [tL, tL]) (rs := [(.int .i64)]) (pts := ptL) (fns := fns) (fgs := fgs0) (fws := fws0) (tys := tyTab) (main := fun k (x : LX × LX) => nat_Cmp.f k x.1 x.2) ok mix tyOk ⟨⟨rfl, fun _ => rfl, fun k x => by kernel_rfl⟩, trivial⟩ (fun k x => by kernel_rfl) (fun k => ⟨⟨nat_trim.c k, trivial⟩, trivial, trivial⟩) k
end nat_Cmp

namespace bits_Div32
def s7 : PSig := ⟨0, [], [(0, .val (.int .u32)), (1, .val (.int .u32)), (2, .val (.int .u32))]⟩
def ptL : List (Pt (TD [(.int .u32), (.int .u32)])) := [⟨7, s7, fun k (x : Int × Int × Int) => bits_Div32.p7 k x.1 x.2.1 x.2.2⟩]
def fs (k : Nat) : FS := ⟨[(.int .u32), (.int .u32), (.int .u32)], [(.int .u32), (.int .u32)], fun (x : Int × Int × Int) => bits_Div32.f k x.1 x.2.1 x.2.2⟩
theorem ok : FnOk Tryz.prog 143 33 Tryz.f143.results.toList (Tryz.f143.body.getD .skip) 3 := ⟨⟨Tryz.f143, by kernel_rfl, by kernel_rfl, by kernel_rfl, rfl, by kernel_rfl⟩, by kernel_rfl, by decide⟩
theorem c (k : Nat) : Contract Tryz.prog 143 (fs k) :=
  fn_sound (ps := [(.int .u32), (.int .u32), (.int .u32)]) (rs := [(.int .u32), (.int .u32)]) (pts := ptL) (fns := fns0) (fgs := fgs0) (fws := fws0) (tys := tyTab) (main := fun k (x : Int × Int × Int) => bits_Div32.f k x.1 x.2.1 x.2.2) ok mix tyOk ⟨⟨rfl, fun _ => rfl, fun k x => by kernel_rfl⟩, trivial⟩ (fun k x => by kernel_rfl) (fun _ => ⟨trivial, trivial, trivial⟩) k
end bits_Div32

namespace nat_short
def s0 : PSig := ⟨0, [(84, (.int .u32), false)], [(0, .val tL), (1, .val (.int .u32)), (6, .own 0), (7, .val (.int .u32)), (8, .val (.int .i64))]⟩
def ptL : List (Pt (TD [tL, (.int .u32)])) := [⟨0, s0, fun k (x : LX × LX × Int × Int × Int) => nat_short.p0 k x.1 x.2.1 x.2.2.1 x.2.2.2.1 x.2.2.2.2⟩]
def fns : Nat → List (FuncId × FS) := fun k => [(143, ⟨[(.int .u32), (.int .u32), (.int .u32)], [(.int .u32), (.int .u32)], fun (x : Int × Int × Int) => bits_Div32.f k x.1 x.2.1 x.2.2⟩)]
def fs (k : Nat) : FS := ⟨[tL, (.int .u32)], [tL, (.int .u32)], fun (x : LX × Int) => nat_short.f k x.1 x.2⟩
theorem ok : FnOk Tryz.prog 126 34 Tryz.f126.results.toList (Tryz.f126.body.getD .skip) 2 := ⟨⟨Tryz.f126, by kernel_rfl, by kernel_rfl, by kernel_rfl, rfl, by kernel_rfl⟩, by kernel_rfl, by decide⟩
theorem c (k : Nat) : Contract Tryz.prog 126 (fs k) :=
  fn_sound (ps := [tL, (.int .u32)]) (rs := [tL, (.int .u32)]) (pts := ptL) (fns := fns) (fgs := fgs0) (fws := fws0) (tys := tyTab) (main := fun k (x : LX × Int) => nat_short.f k x.1 x.2) ok mix tyOk ⟨⟨rfl, fun _ => rfl, fun k x => by kernel_rfl⟩, trivial⟩ (fun k x => by kernel_rfl) (fun k => ⟨⟨bits_Div32.c k, trivial⟩, trivial, trivial⟩) k
end nat_short

namespace bits_Len32
def s9 : PSig := ⟨0, [], [(0, .val (.int .u32)), (2, .val (.int .i64))]⟩
def s15 : PSig := ⟨0, [], [(0, .val (.int .u32)), (2, .val (.int .i64))]⟩
def ptL : List (Pt (TD [(.int .i64)])) := [⟨9, s9, fun k (x : Int × Int) => bits_Len32.p9 k x.1 x.2⟩, ⟨15, s15, fun k (x : Int × Int) => bits_Len32.p15 k x.1 x.2⟩]
def fs (k : Nat) : FS := ⟨[(.int .u32)], [(.int .i64)], fun (x : Int) => bits_Len32.f k x⟩
theorem ok : FnOk Tryz.prog 104 19 Tryz.f104.results.toList (Tryz.f104.body.getD .skip) 1 := ⟨⟨Tryz.f104, by kernel_rfl, by kernel_rfl, by kernel_rfl, rfl, by kernel_rfl⟩, by kernel_rfl, by decide⟩
theorem c (k : Nat) : Contract Tryz.prog 104 (fs k) :=
  fn_sound (ps := [(.int .u32)]) (rs := [(.int .i64)]) (pts := ptL) (fns := fns0) (fgs := fgs0) (fws := fws0) (tys := tyTab) (main := fun k (x : Int) => bits_Len32.f k x) ok mix tyOk ⟨⟨rfl, fun _ => rfl, fun k x => by kernel_rfl⟩, ⟨rfl, fun _ => rfl, fun k x => by kernel_rfl⟩, trivial⟩ (fun k x => by kernel_rfl) (fun _ => ⟨trivial, trivial, trivial⟩) k
end bits_Len32

namespace bits_LeadingZeros32
def ptL : List (Pt (TD [(.int .i64)])) := []
def fns : Nat → List (FuncId × FS) := fun k => [(104, ⟨[(.int .u32)], [(.int .i64)], fun (x : Int) => bits_Len32.f k x⟩)]
def fs (k : Nat) : FS := ⟨[(.int .u32)], [(.int .i64)], fun (x : Int) => bits_LeadingZeros32.f k x⟩
theorem ok : FnOk Tryz.prog 146 6 Tryz.f146.results.toList (Tryz.f146.body.getD .skip) 1 := ⟨⟨Tryz.f146, by kernel_rfl, by kernel_rfl, by kernel_rfl, rfl, by kernel_rfl⟩, by kernel_rfl, by decide⟩
theorem c (k : Nat) : Contract Tryz.prog 146 (fs k) :=
  fn_sound (ps := [(.int .u32)]) (rs := [(.int .i64)]) (pts := ptL) (fns := fns) (fgs := fgs0) (fws := fws0) (tys := tyTab) (main := fun k (x : Int) => bits_LeadingZeros32.f k x) ok mix tyOk trivial (fun k x => by kernel_rfl) (fun k => ⟨⟨bits_Len32.c k, trivial⟩, trivial, trivial⟩) k
end bits_LeadingZeros32

namespace nat_moved
def s0 : PSig := ⟨0, [(84, (.int .u32), false)], [(0, .val tL), (1, .val (.int .i64)), (5, .own 0), (12, .val (.int .i64)), (13, .val (.int .i64))]⟩
def ptL : List (Pt (TD [tL])) := [⟨0, s0, fun k (x : LX × LX × Int × Int × Int) => nat_moved.p0 k x.1 x.2.1 x.2.2.1 x.2.2.2.1 x.2.2.2.2⟩]
def fs (k : Nat) : FS := ⟨[tL, (.int .i64)], [tL], fun (x : LX × Int) => nat_moved.f k x.1 x.2⟩
theorem ok : FnOk Tryz.prog 103 43 Tryz.f103.results.toList (Tryz.f103.body.getD .skip) 2 := ⟨⟨Tryz.f103, by kernel_rfl, by kernel_rfl, by kernel_rfl, rfl, by kernel_rfl⟩, by kernel_rfl, by decide⟩
theorem c (k : Nat) : Contract Tryz.prog 103 (fs k) :=
  fn_sound (ps := [tL, (.int .i64)]) (rs := [tL]) (pts := ptL) (fns := fns0) (fgs := fgs0) (fws := fws0) (tys := tyTab) (main := fun k (x : LX × Int) => nat_moved.f k x.1 x.2) ok mix tyOk ⟨⟨rfl, fun _ => rfl, fun k x => by kernel_rfl⟩, trivial⟩ (fun k x => by kernel_rfl) (fun _ => ⟨trivial, trivial, trivial⟩) k
def fw (k : Nat) : FW := ⟨[tL, (.int .i64)], 84, (.int .u32), false, fun (x : LX × Int) => nat_moved.f k x.1 x.2⟩
def ptW : List (Pt (List (Ty.D (.int .u32)))) := [⟨0, s0, fun k (x : LX × LX × Int × Int × Int) => nat_moved.p0 k x.1 x.2.1 x.2.2.1 x.2.2.2.1 x.2.2.2.2⟩]
theorem cw (k : Nat) : ContractW Tryz.prog 103 (fw k) :=
  fn_soundW (ps := [tL, (.int .i64)]) (e := 84) (t := (.int .u32)) (bx := false) (pts := ptW) (fns := fns0) (fgs := fgs0) (fws := fws0) (tys := tyTab) (main := fun k (x : LX × Int) => nat_moved.f k x.1 x.2) ok mix tyOk ⟨⟨rfl, fun _ => rfl, fun k x => by kernel_rfl⟩, trivial⟩ (fun k x => by kernel_rfl) (fun _ => ⟨trivial, trivial, trivial⟩) k
end nat_moved

namespace bits_Sub32
def ptL : List (Pt (TD [(.int .u32), (.int .u32)])) := []
def fs (k : Nat) : FS := ⟨[(.int .u32), (.int .u32), (.int .u32)], [(.int .u32), (.int .u32)], fun (x : Int × Int × Int) => bits_Sub32.f k x.1 x.2.1 x.2.2⟩
theorem ok : FnOk Tryz.prog 125 25 Tryz.f125.results.toList (Tryz.f125.body.getD .skip) 3 := ⟨⟨Tryz.f125, by kernel_rfl, by kernel_rfl, by kernel_rfl, rfl, by kernel_rfl⟩, by kernel_rfl, by decide⟩
theorem c (k : Nat) : Contract Tryz.prog 125 (fs k) :=
  fn_sound (ps := [(.int .u32), (.int .u32), (.int .u32)]) (rs := [(.int .u32), (.int .u32)]) (pts := ptL) (fns := fns0) (fgs := fgs0) (fws := fws0) (tys := tyTab) (main := fun k (x : Int × Int × Int) => bits_Sub32.f k x.1 x.2.1 x.2.2) ok mix tyOk trivial (fun k x => by kernel_rfl) (fun _ => ⟨trivial, trivial, trivial⟩) k
end bits_Sub32

namespace bits_Add32
def ptL : List (Pt (TD [(.int .u32), (.int .u32)])) := []
def fs (k : Nat) : FS := ⟨[(.int .u32), (.int .u32), (.int .u32)], [(.int .u32), (.int .u32)], fun (x : Int × Int × Int) => bits_Add32.f k x.1 x.2.1 x.2.2⟩
theorem ok : FnOk Tryz.prog 105 22 Tryz.f105.results.toList (Tryz.f105.body.getD .skip) 3 := ⟨⟨Tryz.f105, by kernel_rfl, by kernel_rfl, by kernel_rfl, rfl, by kernel_rfl⟩, by kernel_rfl, by decide⟩
theorem c (k : Nat) : Contract Tryz.prog 105 (fs k) :=
  fn_sound (ps := [(.int .u32), (.int .u32), (.int .u32)]) (rs := [(.int .u32), (.int .u32)]) (pts := ptL) (fns := fns0) (fgs := fgs0) (fws := fws0) (tys := tyTab) (main := fun k (x : Int × Int × Int) => bits_Add32.f k x.1 x.2.1 x.2.2) ok mix tyOk trivial (fun k x => by kernel_rfl) (fun _ => ⟨trivial, trivial, trivial⟩) k
end bits_Add32

namespace nat_digit
def s0 : PSig := ⟨1, [(84, (.int .u32), false)], [(0, .win 0), (1, .val tL), (5, .val (.int .i64)), (7, .val (.int .u64)), (8, .val (.int .u64))]⟩
def s11 : PSig := ⟨1, [(84, (.int .u32), false)], [(0, .win 0), (1, .val tL), (5, .val (.int .i64)), (7, .val (.int .u64)), (8, .val (.int .u64))]⟩
def s4 : PSig := ⟨1, [(84, (.int .u32), false)], [(0, .win 0), (1, .val tL), (5, .val (.int .i64)), (7, .val (.int .u64)), (9, .val (.int .u32)), (10, .val (.int .u64)), (82, .val (.int .i64)), (83, .val (.int .i64))]⟩
def s8 : PSig := ⟨1, [(84, (.int .u32), false)], [(0, .win 0), (1, .val tL), (5, .val (.int .i64)), (7, .val (.int .u64)), (13, .val (.int .u32)), (130, .val (.int .i64)), (131, .val (.int .i64))]⟩
def ptL : List (Pt (TD ([.win 84 (.int .u32), .val tL].flatMap PK.outs ++ [(.int .u32)]))) := [⟨0, s0, fun k (x : LX × Nat × Nat × LX × Int × Int × Int) => nat_digit.p0 k x.1 x.2.1 x.2.2.1 x.2.2.2.1 x.2.2.2.2.1 x.2.2.2.2.2.1 x.2.2.2.2.2.2⟩, ⟨11, s11, fun k (x : LX × Nat × Nat × LX × Int × Int × Int) => nat_digit.p11 k x.1 x.2.1 x.2.2.1 x.2.2.2.1 x.2.2.2.2.1 x.2.2.2.2.2.1 x.2.2.2.2.2.2⟩, ⟨4, s4, fun k (x : LX × Nat × Nat × LX × Int × Int × Int × Int × Int × Int) => nat_digit.p4 k x.1 x.2.1 x.2.2.1 x.2.2.2.1 x.2.2.2.2.1 x.2.2.2.2.2.1 x.2.2.2.2.2.2.1 x.2.2.2.2.2.2.2.1 x.2.2.2.2.2.2.2.2.1 x.2.2.2.2.2.2.2.2.2⟩, ⟨8, s8, fun k (x : LX × Nat × Nat × LX × Int × Int × Int × Int × Int) => nat_digit.p8 k x.1 x.2.1 x.2.2.1 x.2.2.2.1 x.2.2.2.2.1 x.2.2.2.2.2.1 x.2.2.2.2.2.2.1 x.2.2.2.2.2.2.2.1 x.2.2.2.2.2.2.2.2⟩]
def fns : Nat → List (FuncId × FS) := fun k => [(125, ⟨[(.int .u32), (.int .u32), (.int .u32)], [(.int .u32), (.int .u32)], fun (x : Int × Int × Int) => bits_Sub32.f k x.1 x.2.1 x.2.2⟩), (105, ⟨[(.int .u32), (.int .u32), (.int .u32)], [(.int .u32), (.int .u32)], fun (x : Int × Int × Int) => bits_Add32.f k x.1 x.2.1 x.2.2⟩)]
def fg (k : Nat) : FG := ⟨[.win 84 (.int .u32), .val tL], [(.int .u32)], fun (x : LX × Nat × Nat × LX) => nat_digit.f k x.1 x.2.1 x.2.2.1 x.2.2.2⟩
theorem ok : FnOk Tryz.prog 147 160 Tryz.f147.results.toList (Tryz.f147.body.getD .skip) 2 := ⟨⟨Tryz.f147, by kernel_rfl, by kernel_rfl, by kernel_rfl, rfl, by kernel_rfl⟩, by kernel_rfl, by decide⟩
theorem c (k : Nat) : ContractG Tryz.prog 147 (fg k) :=
  fn_soundG (ps := [.win 84 (.int .u32), .val tL]) (rs := [(.int .u32)]) (pts := ptL) (fns := fns) (fgs := fgs0) (fws := fws0) (tys := tyTab) (main := fun k (x : LX × Nat × Nat × LX) => nat_digit.f k x.1 x.2.1 x.2.2.1 x.2.2.2) ok rfl mix tyOk ⟨⟨rfl, fun _ => rfl, fun k x => by kernel_rfl⟩, ⟨rfl, fun _ => rfl, fun k x => by kernel_rfl⟩, ⟨rfl, fun _ => rfl, fun k x => by kernel_rfl⟩, ⟨rfl, fun _ => rfl, fun k x => by kernel_rfl⟩, trivial⟩ (fun k x => by kernel_rfl) (fun k => ⟨⟨bits_Sub32.c k, bits_Add32.c k, trivial⟩, trivial, trivial⟩) k
end nat_digit

namespace nat_long
def s0 : PSig := ⟨0, [(84, (.int .u32), false), (84, (.int .u32), false)], [(6, .val (.int .i64)), (7, .val tL), (8, .own 0), (9, .val (.int .i64)), (10, .own 1), (11, .val (.int .i64))]⟩
def s4 : PSig := ⟨0, [(84, (.int .u32), false), (84, (.int .u32), false), (84, (.int .u32), false)], [(6, .val (.int .i64)), (8, .own 0), (10, .own 1), (12, .own 2), (60, .val (.int .i64)), (61, .val (.int .i64))]⟩
def fws : Nat → List (FuncId × FW) := fun k => [(103, ⟨[tL, (.int .i64)], 84, (.int .u32), false, fun (x : LX × Int) => nat_moved.f k x.1 x.2⟩), (56, ⟨[tL], 84, (.int .u32), false, fun (x : LX) => nat_own.f k x⟩)]
def ptL : List (Pt (TD [tL, tL])) := [⟨0, s0, fun k (x : LX × LX × Int × LX × Int × Int) => nat_long.p0 k x.1 x.2.1 x.2.2.1 x.2.2.2.1 x.2.2.2.2.1 x.2.2.2.2.2⟩, ⟨4, s4, fun k (x : LX × LX × LX × Int × Int × Int) => nat_long.p4 k x.1 x.2.1 x.2.2.1 x.2.2.2.1 x.2.2.2.2.1 x.2.2.2.2.2⟩]
def fns : Nat → List (FuncId × FS) := fun k => [(146, ⟨[(.int .u32)], [(.int .i64)], fun (x : Int) => bits_LeadingZeros32.f k x⟩)]
def fgs : Nat → List (FuncId × FG) := fun k => [(147, ⟨[.win 84 (.int .u32), .val tL], [(.int .u32)], fun (x : LX × Nat × Nat × LX) => nat_digit.f k x.1 x.2.1 x.2.2.1 x.2.2.2⟩)]
def fs (k : Nat) : FS := ⟨[tL, tL], [tL, tL], fun (x : LX × LX) => nat_long.f k x.1 x.2⟩
theorem ok : FnOk Tryz.prog 131 89 Tryz.f131.results.toList (Tryz.f131.body.getD .skip) 2 := ⟨⟨Tryz.f131, by kernel_rfl, by kernel_rfl, by kernel_rfl, rfl, by kernel_rfl⟩, by kernel_rfl, by decide⟩
theorem c (k : Nat) : Contract Tryz.prog 131 (fs k) :=
  fn_sound (ps := [tL, tL]) (rs := [tL, tL]) (pts := ptL) (fns := fns) (fgs := fgs) (fws := fws) (tys := tyTab) (main := fun k (x : LX × LX) => nat_long.f k x.1 x.2) ok mix tyOk ⟨⟨rfl, fun _ => rfl, fun k x => by kernel_rfl⟩, ⟨rfl, fun _ => rfl, fun k x => by kernel_rfl⟩, trivial⟩ (fun k x => by kernel_rfl) (fun k => ⟨⟨bits_LeadingZeros32.c k, trivial⟩, ⟨nat_digit.c k, trivial⟩, ⟨nat_moved.cw k, nat_own.cw k, trivial⟩⟩) k
end nat_long

namespace nat_Div
def ptL : List (Pt (TD [tL, tL, (.int .i64)])) := []
def fns : Nat → List (FuncId × FS) := fun k => [(97, ⟨[tL], [tL], fun (x : LX) => nat_trim.f k x⟩), (69, ⟨[tL, tL], [(.int .i64)], fun (x : LX × LX) => nat_Cmp.f k x.1 x.2⟩), (56, ⟨[tL], [tL], fun (x : LX) => nat_own.f k x⟩), (126, ⟨[tL, (.int .u32)], [tL, (.int .u32)], fun (x : LX × Int) => nat_short.f k x.1 x.2⟩), (131, ⟨[tL, tL], [tL, tL], fun (x : LX × LX) => nat_long.f k x.1 x.2⟩)]
def fs (k : Nat) : FS := ⟨[tL, tL], [tL, tL, (.int .i64)], fun (x : LX × LX) => nat_Div.f k x.1 x.2⟩
theorem ok : FnOk Tryz.prog 100 51 Tryz.f100.results.toList (Tryz.f100.body.getD .skip) 2 := ⟨⟨Tryz.f100, by kernel_rfl, by kernel_rfl, by kernel_rfl, rfl, by kernel_rfl⟩, by kernel_rfl, by decide⟩
theorem c (k : Nat) : Contract Tryz.prog 100 (fs k) :=
  fn_sound (ps := [tL, tL]) (rs := [tL, tL, (.int .i64)]) (pts := ptL) (fns := fns) (fgs := fgs0) (fws := fws0) (tys := tyTab) (main := fun k (x : LX × LX) => nat_Div.f k x.1 x.2) ok mix tyOk trivial (fun k x => by kernel_rfl) (fun k => ⟨⟨nat_trim.c k, nat_Cmp.c k, nat_own.c k, nat_short.c k, nat_long.c k, trivial⟩, trivial, trivial⟩) k
end nat_Div

namespace nat_Gcd
def s0 : PSig := ⟨0, [], [(0, .val tL), (1, .val tL)]⟩
def ptL : List (Pt (TD [tL])) := [⟨0, s0, fun k (x : LX × LX) => nat_Gcd.p0 k x.1 x.2⟩]
def fns : Nat → List (FuncId × FS) := fun k => [(56, ⟨[tL], [tL], fun (x : LX) => nat_own.f k x⟩), (100, ⟨[tL, tL], [tL, tL, (.int .i64)], fun (x : LX × LX) => nat_Div.f k x.1 x.2⟩)]
def fs (k : Nat) : FS := ⟨[tL, tL], [tL], fun (x : LX × LX) => nat_Gcd.f k x.1 x.2⟩
theorem ok : FnOk Tryz.prog 99 25 Tryz.f99.results.toList (Tryz.f99.body.getD .skip) 2 := ⟨⟨Tryz.f99, by kernel_rfl, by kernel_rfl, by kernel_rfl, rfl, by kernel_rfl⟩, by kernel_rfl, by decide⟩
theorem c (k : Nat) : Contract Tryz.prog 99 (fs k) :=
  fn_sound (ps := [tL, tL]) (rs := [tL]) (pts := ptL) (fns := fns) (fgs := fgs0) (fws := fws0) (tys := tyTab) (main := fun k (x : LX × LX) => nat_Gcd.f k x.1 x.2) ok mix tyOk ⟨⟨rfl, fun _ => rfl, fun k x => by kernel_rfl⟩, trivial⟩ (fun k x => by kernel_rfl) (fun k => ⟨⟨nat_own.c k, nat_Div.c k, trivial⟩, trivial, trivial⟩) k
end nat_Gcd

namespace whole_Norm
def ptL : List (Pt (TD [tZ])) := []
def fns : Nat → List (FuncId × FS) := fun k => [(57, ⟨[tZ], [(.int .i64)], fun (x : ZX) => whole_Sign.f k x⟩), (60, ⟨[tL, (.list (.int .i64))], [tZ], fun (x : LX × LX) => whole_signed.f k x.1 x.2⟩)]
def fs (k : Nat) : FS := ⟨[tZ], [tZ], fun (x : ZX) => whole_Norm.f k x⟩
theorem ok : FnOk Tryz.prog 101 9 Tryz.f101.results.toList (Tryz.f101.body.getD .skip) 1 := ⟨⟨Tryz.f101, by kernel_rfl, by kernel_rfl, by kernel_rfl, rfl, by kernel_rfl⟩, by kernel_rfl, by decide⟩
theorem c (k : Nat) : Contract Tryz.prog 101 (fs k) :=
  fn_sound (ps := [tZ]) (rs := [tZ]) (pts := ptL) (fns := fns) (fgs := fgs0) (fws := fws0) (tys := tyTab) (main := fun k (x : ZX) => whole_Norm.f k x) ok mix tyOk trivial (fun k x => by kernel_rfl) (fun k => ⟨⟨whole_Sign.c k, whole_signed.c k, trivial⟩, trivial, trivial⟩) k
end whole_Norm

namespace ratio_made
def ptL : List (Pt (TD [tQ])) := []
def fns : Nat → List (FuncId × FS) := fun k => [(99, ⟨[tL, tL], [tL], fun (x : LX × LX) => nat_Gcd.f k x.1 x.2⟩), (100, ⟨[tL, tL], [tL, tL, (.int .i64)], fun (x : LX × LX) => nat_Div.f k x.1 x.2⟩), (101, ⟨[tZ], [tZ], fun (x : ZX) => whole_Norm.f k x⟩)]
def fs (k : Nat) : FS := ⟨[tZ, tL], [tQ], fun (x : ZX × LX) => ratio_made.f k x.1 x.2⟩
theorem ok : FnOk Tryz.prog 59 38 Tryz.f59.results.toList (Tryz.f59.body.getD .skip) 2 := ⟨⟨Tryz.f59, by kernel_rfl, by kernel_rfl, by kernel_rfl, rfl, by kernel_rfl⟩, by kernel_rfl, by decide⟩
theorem c (k : Nat) : Contract Tryz.prog 59 (fs k) :=
  fn_sound (ps := [tZ, tL]) (rs := [tQ]) (pts := ptL) (fns := fns) (fgs := fgs0) (fws := fws0) (tys := tyTab) (main := fun k (x : ZX × LX) => ratio_made.f k x.1 x.2) ok mix tyOk trivial (fun k x => by kernel_rfl) (fun k => ⟨⟨nat_Gcd.c k, nat_Div.c k, whole_Norm.c k, trivial⟩, trivial, trivial⟩) k
end ratio_made

namespace ratio_Of
def s11 : PSig := ⟨0, [(34, tZ, true), (34, tZ, true), (36, tQ, true)], [(2, .ptr 0 []), (3, .ptr 1 []), (4, .ptr 2 [])]⟩
def ptL : List (Pt (TD [tQ, (.int .i64)])) := [⟨11, s11, fun k (x : ZX × ZX × RX) => ratio_Of.p11 k x.1 x.2.1 x.2.2⟩]
def fns : Nat → List (FuncId × FS) := fun k => [(57, ⟨[tZ], [(.int .i64)], fun (x : ZX) => whole_Sign.f k x⟩), (58, ⟨[tZ], [tZ], fun (x : ZX) => whole_Neg.f k x⟩), (59, ⟨[tZ, tL], [tQ], fun (x : ZX × LX) => ratio_made.f k x.1 x.2⟩)]
def fs (k : Nat) : FS := ⟨[tZ, tZ], [tQ, (.int .i64)], fun (x : ZX × ZX) => ratio_Of.f k x.1 x.2⟩
theorem ok : FnOk Tryz.prog 27 19 Tryz.f27.results.toList (Tryz.f27.body.getD .skip) 2 := ⟨⟨Tryz.f27, by kernel_rfl, by kernel_rfl, by kernel_rfl, rfl, by kernel_rfl⟩, by kernel_rfl, by decide⟩
theorem c (k : Nat) : Contract Tryz.prog 27 (fs k) :=
  fn_sound (ps := [tZ, tZ]) (rs := [tQ, (.int .i64)]) (pts := ptL) (fns := fns) (fgs := fgs0) (fws := fws0) (tys := tyTab) (main := fun k (x : ZX × ZX) => ratio_Of.f k x.1 x.2) ok mix tyOk ⟨⟨rfl, fun _ => rfl, fun k x => by kernel_rfl⟩, trivial⟩ (fun k x => by kernel_rfl) (fun k => ⟨⟨whole_Sign.c k, whole_Neg.c k, ratio_made.c k, trivial⟩, trivial, trivial⟩) k
end ratio_Of

namespace approx_number
def ptL : List (Pt (TD [tQ])) := []
def fns : Nat → List (FuncId × FS) := fun k => [(86, ⟨[.str, .str], [.str], fun (x : ByteArray × ByteArray) => strings_TrimLeft.f k x.1 x.2⟩), (88, ⟨[.str, (.int .i64)], [tL, (.int .i64)], fun (x : ByteArray × Int) => nat_Parse.f k x.1 x.2⟩), (28, ⟨[(.int .i64)], [tZ], fun (x : Int) => whole_Of.f k x⟩), (27, ⟨[tZ, tZ], [tQ, (.int .i64)], fun (x : ZX × ZX) => ratio_Of.f k x.1 x.2⟩)]
def fs (k : Nat) : FS := ⟨[.str], [tQ], fun (x : ByteArray) => approx_number.f k x⟩
theorem ok : FnOk Tryz.prog 45 25 Tryz.f45.results.toList (Tryz.f45.body.getD .skip) 1 := ⟨⟨Tryz.f45, by kernel_rfl, by kernel_rfl, by kernel_rfl, rfl, by kernel_rfl⟩, by kernel_rfl, by decide⟩
theorem c (k : Nat) : Contract Tryz.prog 45 (fs k) :=
  fn_sound (ps := [.str]) (rs := [tQ]) (pts := ptL) (fns := fns) (fgs := fgs0) (fws := fws0) (tys := tyTab) (main := fun k (x : ByteArray) => approx_number.f k x) ok mix tyOk trivial (fun k x => by kernel_rfl) (fun k => ⟨⟨strings_TrimLeft.c k, nat_Parse.c k, whole_Of.c k, ratio_Of.c k, trivial⟩, trivial, trivial⟩) k
end approx_number

namespace nat_Mul
def s0 : PSig := ⟨0, [(84, (.int .u32), false)], [(0, .val tL), (1, .val tL), (5, .own 0), (21, .val (.int .i64)), (22, .val (.int .i64))]⟩
def s4 : PSig := ⟨0, [(84, (.int .u32), false)], [(0, .val tL), (1, .val tL), (5, .own 0), (6, .val (.int .i64)), (7, .val (.int .u64)), (21, .val (.int .i64)), (22, .val (.int .i64)), (26, .val (.int .i64)), (27, .val (.int .i64))]⟩
def ptL : List (Pt (TD [tL])) := [⟨0, s0, fun k (x : LX × LX × LX × Int × Int) => nat_Mul.p0 k x.1 x.2.1 x.2.2.1 x.2.2.2.1 x.2.2.2.2⟩, ⟨4, s4, fun k (x : LX × LX × LX × Int × Int × Int × Int × Int × Int) => nat_Mul.p4 k x.1 x.2.1 x.2.2.1 x.2.2.2.1 x.2.2.2.2.1 x.2.2.2.2.2.1 x.2.2.2.2.2.2.1 x.2.2.2.2.2.2.2.1 x.2.2.2.2.2.2.2.2⟩]
def fns : Nat → List (FuncId × FS) := fun k => [(97, ⟨[tL], [tL], fun (x : LX) => nat_trim.f k x⟩), (56, ⟨[tL], [tL], fun (x : LX) => nat_own.f k x⟩)]
def fs (k : Nat) : FS := ⟨[tL, tL], [tL], fun (x : LX × LX) => nat_Mul.f k x.1 x.2⟩
theorem ok : FnOk Tryz.prog 63 72 Tryz.f63.results.toList (Tryz.f63.body.getD .skip) 2 := ⟨⟨Tryz.f63, by kernel_rfl, by kernel_rfl, by kernel_rfl, rfl, by kernel_rfl⟩, by kernel_rfl, by decide⟩
theorem c (k : Nat) : Contract Tryz.prog 63 (fs k) :=
  fn_sound (ps := [tL, tL]) (rs := [tL]) (pts := ptL) (fns := fns) (fgs := fgs0) (fws := fws0) (tys := tyTab) (main := fun k (x : LX × LX) => nat_Mul.f k x.1 x.2) ok mix tyOk ⟨⟨rfl, fun _ => rfl, fun k x => by kernel_rfl⟩, ⟨rfl, fun _ => rfl, fun k x => by kernel_rfl⟩, trivial⟩ (fun k x => by kernel_rfl) (fun k => ⟨⟨nat_trim.c k, nat_own.c k, trivial⟩, trivial, trivial⟩) k
end nat_Mul

namespace nat_Pow
def s5 : PSig := ⟨0, [], []⟩
def s0 : PSig := ⟨0, [], [(1, .val (.int .i64)), (6, .val tL), (7, .val tL)]⟩
def s19 : PSig := ⟨0, [], [(1, .val (.int .i64)), (6, .val tL), (7, .val tL)]⟩
def s13 : PSig := ⟨0, [], [(1, .val (.int .i64)), (6, .val tL), (7, .val tL)]⟩
def ptL : List (Pt (TD [tL, (.int .i64)])) := [⟨5, s5, fun k (x : Unit) => nat_Pow.p5 k x⟩, ⟨0, s0, fun k (x : Int × LX × LX) => nat_Pow.p0 k x.1 x.2.1 x.2.2⟩, ⟨19, s19, fun k (x : Int × LX × LX) => nat_Pow.p19 k x.1 x.2.1 x.2.2⟩, ⟨13, s13, fun k (x : Int × LX × LX) => nat_Pow.p13 k x.1 x.2.1 x.2.2⟩]
def fns : Nat → List (FuncId × FS) := fun k => [(56, ⟨[tL], [tL], fun (x : LX) => nat_own.f k x⟩), (63, ⟨[tL, tL], [tL], fun (x : LX × LX) => nat_Mul.f k x.1 x.2⟩)]
def fs (k : Nat) : FS := ⟨[tL, (.int .i64)], [tL, (.int .i64)], fun (x : LX × Int) => nat_Pow.f k x.1 x.2⟩
theorem ok : FnOk Tryz.prog 89 33 Tryz.f89.results.toList (Tryz.f89.body.getD .skip) 2 := ⟨⟨Tryz.f89, by kernel_rfl, by kernel_rfl, by kernel_rfl, rfl, by kernel_rfl⟩, by kernel_rfl, by decide⟩
theorem c (k : Nat) : Contract Tryz.prog 89 (fs k) :=
  fn_sound (ps := [tL, (.int .i64)]) (rs := [tL, (.int .i64)]) (pts := ptL) (fns := fns) (fgs := fgs0) (fws := fws0) (tys := tyTab) (main := fun k (x : LX × Int) => nat_Pow.f k x.1 x.2) ok mix tyOk ⟨⟨rfl, fun _ => rfl, fun k x => by kernel_rfl⟩, ⟨rfl, fun _ => rfl, fun k x => by kernel_rfl⟩, ⟨rfl, fun _ => rfl, fun k x => by kernel_rfl⟩, ⟨rfl, fun _ => rfl, fun k x => by kernel_rfl⟩, trivial⟩ (fun k x => by kernel_rfl) (fun k => ⟨⟨nat_own.c k, nat_Mul.c k, trivial⟩, trivial, trivial⟩) k
end nat_Pow

namespace nat_Bits
def ptL : List (Pt (TD [(.int .i64)])) := []
def fns : Nat → List (FuncId × FS) := fun k => [(97, ⟨[tL], [tL], fun (x : LX) => nat_trim.f k x⟩), (104, ⟨[(.int .u32)], [(.int .i64)], fun (x : Int) => bits_Len32.f k x⟩)]
def fs (k : Nat) : FS := ⟨[tL], [(.int .i64)], fun (x : LX) => nat_Bits.f k x⟩
theorem ok : FnOk Tryz.prog 66 20 Tryz.f66.results.toList (Tryz.f66.body.getD .skip) 1 := ⟨⟨Tryz.f66, by kernel_rfl, by kernel_rfl, by kernel_rfl, rfl, by kernel_rfl⟩, by kernel_rfl, by decide⟩
theorem c (k : Nat) : Contract Tryz.prog 66 (fs k) :=
  fn_sound (ps := [tL]) (rs := [(.int .i64)]) (pts := ptL) (fns := fns) (fgs := fgs0) (fws := fws0) (tys := tyTab) (main := fun k (x : LX) => nat_Bits.f k x) ok mix tyOk trivial (fun k x => by kernel_rfl) (fun k => ⟨⟨nat_trim.c k, bits_Len32.c k, trivial⟩, trivial, trivial⟩) k
end nat_Bits

namespace ratio_Norm
def ptL : List (Pt (TD [tQ])) := []
def fns : Nat → List (FuncId × FS) := fun k => [(66, ⟨[tL], [(.int .i64)], fun (x : LX) => nat_Bits.f k x⟩), (59, ⟨[tZ, tL], [tQ], fun (x : ZX × LX) => ratio_made.f k x.1 x.2⟩)]
def fs (k : Nat) : FS := ⟨[tQ], [tQ], fun (x : RX) => ratio_Norm.f k x⟩
theorem ok : FnOk Tryz.prog 61 14 Tryz.f61.results.toList (Tryz.f61.body.getD .skip) 1 := ⟨⟨Tryz.f61, by kernel_rfl, by kernel_rfl, by kernel_rfl, rfl, by kernel_rfl⟩, by kernel_rfl, by decide⟩
theorem c (k : Nat) : Contract Tryz.prog 61 (fs k) :=
  fn_sound (ps := [tQ]) (rs := [tQ]) (pts := ptL) (fns := fns) (fgs := fgs0) (fws := fws0) (tys := tyTab) (main := fun k (x : RX) => ratio_Norm.f k x) ok mix tyOk trivial (fun k x => by kernel_rfl) (fun k => ⟨⟨nat_Bits.c k, ratio_made.c k, trivial⟩, trivial, trivial⟩) k
end ratio_Norm

namespace ratio_Inv
def ptL : List (Pt (TD [tQ, (.int .i64)])) := []
def fns : Nat → List (FuncId × FS) := fun k => [(61, ⟨[tQ], [tQ], fun (x : RX) => ratio_Norm.f k x⟩), (27, ⟨[tZ, tZ], [tQ, (.int .i64)], fun (x : ZX × ZX) => ratio_Of.f k x.1 x.2⟩)]
def fs (k : Nat) : FS := ⟨[tQ], [tQ, (.int .i64)], fun (x : RX) => ratio_Inv.f k x⟩
theorem ok : FnOk Tryz.prog 65 14 Tryz.f65.results.toList (Tryz.f65.body.getD .skip) 1 := ⟨⟨Tryz.f65, by kernel_rfl, by kernel_rfl, by kernel_rfl, rfl, by kernel_rfl⟩, by kernel_rfl, by decide⟩
theorem c (k : Nat) : Contract Tryz.prog 65 (fs k) :=
  fn_sound (ps := [tQ]) (rs := [tQ, (.int .i64)]) (pts := ptL) (fns := fns) (fgs := fgs0) (fws := fws0) (tys := tyTab) (main := fun k (x : RX) => ratio_Inv.f k x) ok mix tyOk trivial (fun k x => by kernel_rfl) (fun k => ⟨⟨ratio_Norm.c k, ratio_Of.c k, trivial⟩, trivial, trivial⟩) k
end ratio_Inv

namespace approx_ten
def s0 : PSig := ⟨0, [(36, tQ, true)], [(0, .val (.int .i64)), (2, .ptr 0 []), (3, .val tL), (4, .val (.int .i64))]⟩
def s21 : PSig := ⟨0, [(36, tQ, true), (36, tQ, true)], [(2, .ptr 0 []), (7, .ptr 1 [])]⟩
def ptL : List (Pt (TD [tQ])) := [⟨0, s0, fun k (x : RX × Int × LX × Int) => approx_ten.p0 k x.1 x.2.1 x.2.2.1 x.2.2.2⟩, ⟨21, s21, fun k (x : RX × RX) => approx_ten.p21 k x.1 x.2⟩]
def fns : Nat → List (FuncId × FS) := fun k => [(26, ⟨[(.int .u64)], [tL], fun (x : Int) => nat_Of.f k x⟩), (89, ⟨[tL, (.int .i64)], [tL, (.int .i64)], fun (x : LX × Int) => nat_Pow.f k x.1 x.2⟩), (63, ⟨[tL, tL], [tL], fun (x : LX × LX) => nat_Mul.f k x.1 x.2⟩), (28, ⟨[(.int .i64)], [tZ], fun (x : Int) => whole_Of.f k x⟩), (27, ⟨[tZ, tZ], [tQ, (.int .i64)], fun (x : ZX × ZX) => ratio_Of.f k x.1 x.2⟩), (65, ⟨[tQ], [tQ, (.int .i64)], fun (x : RX) => ratio_Inv.f k x⟩)]
def fs (k : Nat) : FS := ⟨[(.int .i64)], [tQ], fun (x : Int) => approx_ten.f k x⟩
theorem ok : FnOk Tryz.prog 46 43 Tryz.f46.results.toList (Tryz.f46.body.getD .skip) 1 := ⟨⟨Tryz.f46, by kernel_rfl, by kernel_rfl, by kernel_rfl, rfl, by kernel_rfl⟩, by kernel_rfl, by decide⟩
theorem c (k : Nat) : Contract Tryz.prog 46 (fs k) :=
  fn_sound (ps := [(.int .i64)]) (rs := [tQ]) (pts := ptL) (fns := fns) (fgs := fgs0) (fws := fws0) (tys := tyTab) (main := fun k (x : Int) => approx_ten.f k x) ok mix tyOk ⟨⟨rfl, fun _ => rfl, fun k x => by kernel_rfl⟩, ⟨rfl, fun _ => rfl, fun k x => by kernel_rfl⟩, trivial⟩ (fun k x => by kernel_rfl) (fun k => ⟨⟨nat_Of.c k, nat_Pow.c k, nat_Mul.c k, whole_Of.c k, ratio_Of.c k, ratio_Inv.c k, trivial⟩, trivial, trivial⟩) k
end approx_ten

namespace whole_Mul
def ptL : List (Pt (TD [tZ])) := []
def fns : Nat → List (FuncId × FS) := fun k => [(63, ⟨[tL, tL], [tL], fun (x : LX × LX) => nat_Mul.f k x.1 x.2⟩), (57, ⟨[tZ], [(.int .i64)], fun (x : ZX) => whole_Sign.f k x⟩), (60, ⟨[tL, (.list (.int .i64))], [tZ], fun (x : LX × LX) => whole_signed.f k x.1 x.2⟩)]
def fs (k : Nat) : FS := ⟨[tZ, tZ], [tZ], fun (x : ZX × ZX) => whole_Mul.f k x.1 x.2⟩
theorem ok : FnOk Tryz.prog 62 16 Tryz.f62.results.toList (Tryz.f62.body.getD .skip) 2 := ⟨⟨Tryz.f62, by kernel_rfl, by kernel_rfl, by kernel_rfl, rfl, by kernel_rfl⟩, by kernel_rfl, by decide⟩
theorem c (k : Nat) : Contract Tryz.prog 62 (fs k) :=
  fn_sound (ps := [tZ, tZ]) (rs := [tZ]) (pts := ptL) (fns := fns) (fgs := fgs0) (fws := fws0) (tys := tyTab) (main := fun k (x : ZX × ZX) => whole_Mul.f k x.1 x.2) ok mix tyOk trivial (fun k x => by kernel_rfl) (fun k => ⟨⟨nat_Mul.c k, whole_Sign.c k, whole_signed.c k, trivial⟩, trivial, trivial⟩) k
end whole_Mul

namespace ratio_Mul
def ptL : List (Pt (TD [tQ])) := []
def fns : Nat → List (FuncId × FS) := fun k => [(61, ⟨[tQ], [tQ], fun (x : RX) => ratio_Norm.f k x⟩), (62, ⟨[tZ, tZ], [tZ], fun (x : ZX × ZX) => whole_Mul.f k x.1 x.2⟩), (63, ⟨[tL, tL], [tL], fun (x : LX × LX) => nat_Mul.f k x.1 x.2⟩), (59, ⟨[tZ, tL], [tQ], fun (x : ZX × LX) => ratio_made.f k x.1 x.2⟩)]
def fs (k : Nat) : FS := ⟨[tQ, tQ], [tQ], fun (x : RX × RX) => ratio_Mul.f k x.1 x.2⟩
theorem ok : FnOk Tryz.prog 29 20 Tryz.f29.results.toList (Tryz.f29.body.getD .skip) 2 := ⟨⟨Tryz.f29, by kernel_rfl, by kernel_rfl, by kernel_rfl, rfl, by kernel_rfl⟩, by kernel_rfl, by decide⟩
theorem c (k : Nat) : Contract Tryz.prog 29 (fs k) :=
  fn_sound (ps := [tQ, tQ]) (rs := [tQ]) (pts := ptL) (fns := fns) (fgs := fgs0) (fws := fws0) (tys := tyTab) (main := fun k (x : RX × RX) => ratio_Mul.f k x.1 x.2) ok mix tyOk trivial (fun k x => by kernel_rfl) (fun k => ⟨⟨ratio_Norm.c k, whole_Mul.c k, nat_Mul.c k, ratio_made.c k, trivial⟩, trivial, trivial⟩) k
end ratio_Mul

namespace approx_decimal
def s21 : PSig := ⟨0, [(36, tQ, true)], [(2, .ptr 0 []), (4, .val .str), (5, .val .str), (6, .val .str)]⟩
def s29 : PSig := ⟨0, [(36, tQ, true)], [(2, .ptr 0 []), (4, .val .str), (5, .val .str), (6, .val .str)]⟩
def ptL : List (Pt (TD [tQ, .bool])) := [⟨21, s21, fun k (x : RX × ByteArray × ByteArray × ByteArray) => approx_decimal.p21 k x.1 x.2.1 x.2.2.1 x.2.2.2⟩, ⟨29, s29, fun k (x : RX × ByteArray × ByteArray × ByteArray) => approx_decimal.p29 k x.1 x.2.1 x.2.2.1 x.2.2.2⟩]
def fns : Nat → List (FuncId × FS) := fun k => [(43, ⟨[.str], [.str, .str], fun (x : ByteArray) => approx_digits.f k x⟩), (16, ⟨[.str, .str], [.str, .bool], fun (x : ByteArray × ByteArray) => strings_CutPrefix.f k x.1 x.2⟩), (44, ⟨[.str], [(.int .i64), .bool], fun (x : ByteArray) => approx_exponent.f k x⟩), (45, ⟨[.str], [tQ], fun (x : ByteArray) => approx_number.f k x⟩), (46, ⟨[(.int .i64)], [tQ], fun (x : Int) => approx_ten.f k x⟩), (29, ⟨[tQ, tQ], [tQ], fun (x : RX × RX) => ratio_Mul.f k x.1 x.2⟩)]
def fs (k : Nat) : FS := ⟨[.str], [tQ, .bool], fun (x : ByteArray) => approx_decimal.f k x⟩
theorem ok : FnOk Tryz.prog 17 63 Tryz.f17.results.toList (Tryz.f17.body.getD .skip) 1 := ⟨⟨Tryz.f17, by kernel_rfl, by kernel_rfl, by kernel_rfl, rfl, by kernel_rfl⟩, by kernel_rfl, by decide⟩
theorem c (k : Nat) : Contract Tryz.prog 17 (fs k) :=
  fn_sound (ps := [.str]) (rs := [tQ, .bool]) (pts := ptL) (fns := fns) (fgs := fgs0) (fws := fws0) (tys := tyTab) (main := fun k (x : ByteArray) => approx_decimal.f k x) ok mix tyOk ⟨⟨rfl, fun _ => rfl, fun k x => by kernel_rfl⟩, ⟨rfl, fun _ => rfl, fun k x => by kernel_rfl⟩, trivial⟩ (fun k x => by kernel_rfl) (fun k => ⟨⟨approx_digits.c k, strings_CutPrefix.c k, approx_exponent.c k, approx_number.c k, approx_ten.c k, ratio_Mul.c k, trivial⟩, trivial, trivial⟩) k
end approx_decimal

namespace ratio_Sign
def ptL : List (Pt (TD [(.int .i64)])) := []
def fns : Nat → List (FuncId × FS) := fun k => [(61, ⟨[tQ], [tQ], fun (x : RX) => ratio_Norm.f k x⟩), (57, ⟨[tZ], [(.int .i64)], fun (x : ZX) => whole_Sign.f k x⟩)]
def fs (k : Nat) : FS := ⟨[tQ], [(.int .i64)], fun (x : RX) => ratio_Sign.f k x⟩
theorem ok : FnOk Tryz.prog 34 7 Tryz.f34.results.toList (Tryz.f34.body.getD .skip) 1 := ⟨⟨Tryz.f34, by kernel_rfl, by kernel_rfl, by kernel_rfl, rfl, by kernel_rfl⟩, by kernel_rfl, by decide⟩
theorem c (k : Nat) : Contract Tryz.prog 34 (fs k) :=
  fn_sound (ps := [tQ]) (rs := [(.int .i64)]) (pts := ptL) (fns := fns) (fgs := fgs0) (fws := fws0) (tys := tyTab) (main := fun k (x : RX) => ratio_Sign.f k x) ok mix tyOk trivial (fun k x => by kernel_rfl) (fun k => ⟨⟨ratio_Norm.c k, whole_Sign.c k, trivial⟩, trivial, trivial⟩) k
end ratio_Sign

namespace ratio_Neg
def ptL : List (Pt (TD [tQ])) := []
def fns : Nat → List (FuncId × FS) := fun k => [(61, ⟨[tQ], [tQ], fun (x : RX) => ratio_Norm.f k x⟩), (58, ⟨[tZ], [tZ], fun (x : ZX) => whole_Neg.f k x⟩)]
def fs (k : Nat) : FS := ⟨[tQ], [tQ], fun (x : RX) => ratio_Neg.f k x⟩
theorem ok : FnOk Tryz.prog 71 11 Tryz.f71.results.toList (Tryz.f71.body.getD .skip) 1 := ⟨⟨Tryz.f71, by kernel_rfl, by kernel_rfl, by kernel_rfl, rfl, by kernel_rfl⟩, by kernel_rfl, by decide⟩
theorem c (k : Nat) : Contract Tryz.prog 71 (fs k) :=
  fn_sound (ps := [tQ]) (rs := [tQ]) (pts := ptL) (fns := fns) (fgs := fgs0) (fws := fws0) (tys := tyTab) (main := fun k (x : RX) => ratio_Neg.f k x) ok mix tyOk trivial (fun k x => by kernel_rfl) (fun k => ⟨⟨ratio_Norm.c k, whole_Neg.c k, trivial⟩, trivial, trivial⟩) k
end ratio_Neg

namespace ratio_Abs
def ptL : List (Pt (TD [tQ])) := []
def fns : Nat → List (FuncId × FS) := fun k => [(34, ⟨[tQ], [(.int .i64)], fun (x : RX) => ratio_Sign.f k x⟩), (71, ⟨[tQ], [tQ], fun (x : RX) => ratio_Neg.f k x⟩), (61, ⟨[tQ], [tQ], fun (x : RX) => ratio_Norm.f k x⟩)]
def fs (k : Nat) : FS := ⟨[tQ], [tQ], fun (x : RX) => ratio_Abs.f k x⟩
theorem ok : FnOk Tryz.prog 32 10 Tryz.f32.results.toList (Tryz.f32.body.getD .skip) 1 := ⟨⟨Tryz.f32, by kernel_rfl, by kernel_rfl, by kernel_rfl, rfl, by kernel_rfl⟩, by kernel_rfl, by decide⟩
theorem c (k : Nat) : Contract Tryz.prog 32 (fs k) :=
  fn_sound (ps := [tQ]) (rs := [tQ]) (pts := ptL) (fns := fns) (fgs := fgs0) (fws := fws0) (tys := tyTab) (main := fun k (x : RX) => ratio_Abs.f k x) ok mix tyOk trivial (fun k x => by kernel_rfl) (fun k => ⟨⟨ratio_Sign.c k, ratio_Neg.c k, ratio_Norm.c k, trivial⟩, trivial, trivial⟩) k
end ratio_Abs

namespace math_Float64bits
theorem c (k : Nat) : Contract Tryz.prog 18 ⟨[.flt], [(.int .u64)], fun (x : Nat) => math_Float64bits.f k x⟩ :=
  float64bits_contract (fn := Tryz.f18) (by kernel_rfl) (by kernel_rfl) (by kernel_rfl) (by kernel_rfl) (by kernel_rfl) (fun _ => rfl)
end math_Float64bits

namespace nat_Shift
def s5 : PSig := ⟨0, [], []⟩
def s0 : PSig := ⟨0, [(84, (.int .u32), false)], [(0, .val tL), (8, .val (.int .i64)), (9, .own 0), (56, .val (.int .i64)), (57, .val (.int .i64))]⟩
def s39 : PSig := ⟨0, [(84, (.int .u32), false)], [(0, .val tL), (8, .val (.int .i64)), (9, .own 0), (56, .val (.int .i64)), (57, .val (.int .i64))]⟩
def ptL : List (Pt (TD [tL, (.int .i64)])) := [⟨5, s5, fun k (x : Unit) => nat_Shift.p5 k x⟩, ⟨0, s0, fun k (x : LX × LX × Int × Int × Int) => nat_Shift.p0 k x.1 x.2.1 x.2.2.1 x.2.2.2.1 x.2.2.2.2⟩, ⟨39, s39, fun k (x : LX × LX × Int × Int × Int) => nat_Shift.p39 k x.1 x.2.1 x.2.2.1 x.2.2.2.1 x.2.2.2.2⟩]
def fns : Nat → List (FuncId × FS) := fun k => [(97, ⟨[tL], [tL], fun (x : LX) => nat_trim.f k x⟩), (103, ⟨[tL, (.int .i64)], [tL], fun (x : LX × Int) => nat_moved.f k x.1 x.2⟩), (56, ⟨[tL], [tL], fun (x : LX) => nat_own.f k x⟩)]
def fs (k : Nat) : FS := ⟨[tL, (.int .i64)], [tL, (.int .i64)], fun (x : LX × Int) => nat_Shift.f k x.1 x.2⟩
theorem ok : FnOk Tryz.prog 64 93 Tryz.f64.results.toList (Tryz.f64.body.getD .skip) 2 := ⟨⟨Tryz.f64, by kernel_rfl, by kernel_rfl, by kernel_rfl, rfl, by kernel_rfl⟩, by kernel_rfl, by decide⟩
theorem c (k : Nat) : Contract Tryz.prog 64 (fs k) :=
  fn_sound (ps := [tL, (.int .i64)]) (rs := [tL, (.int .i64)]) (pts := ptL) (fns := fns) (fgs := fgs0) (fws := fws0) (tys := tyTab) (main := fun k (x : LX × Int) => nat_Shift.f k x.1 x.2) ok mix tyOk ⟨⟨rfl, fun _ => rfl, fun k x => by kernel_rfl⟩, ⟨rfl, fun _ => rfl, fun k x => by kernel_rfl⟩, ⟨rfl, fun _ => rfl, fun k x => by kernel_rfl⟩, trivial⟩ (fun k x => by kernel_rfl) (fun k => ⟨⟨nat_trim.c k, nat_moved.c k, nat_own.c k, trivial⟩, trivial, trivial⟩) k
end nat_Shift

namespace approx_cut
def s9 : PSig := ⟨0, [], [(0, .val tL), (1, .val tL)]⟩
def ptL : List (Pt (TD [tL, tL, tL])) := [⟨9, s9, fun k (x : LX × LX) => approx_cut.p9 k x.1 x.2⟩]
def fns : Nat → List (FuncId × FS) := fun k => [(64, ⟨[tL, (.int .i64)], [tL, (.int .i64)], fun (x : LX × Int) => nat_Shift.f k x.1 x.2⟩), (100, ⟨[tL, tL], [tL, tL, (.int .i64)], fun (x : LX × LX) => nat_Div.f k x.1 x.2⟩)]
def fs (k : Nat) : FS := ⟨[tL, tL, (.int .i64)], [tL, tL, tL], fun (x : LX × LX × Int) => approx_cut.f k x.1 x.2.1 x.2.2⟩
theorem ok : FnOk Tryz.prog 67 37 Tryz.f67.results.toList (Tryz.f67.body.getD .skip) 3 := ⟨⟨Tryz.f67, by kernel_rfl, by kernel_rfl, by kernel_rfl, rfl, by kernel_rfl⟩, by kernel_rfl, by decide⟩
theorem c (k : Nat) : Contract Tryz.prog 67 (fs k) :=
  fn_sound (ps := [tL, tL, (.int .i64)]) (rs := [tL, tL, tL]) (pts := ptL) (fns := fns) (fgs := fgs0) (fws := fws0) (tys := tyTab) (main := fun k (x : LX × LX × Int) => approx_cut.f k x.1 x.2.1 x.2.2) ok mix tyOk ⟨⟨rfl, fun _ => rfl, fun k x => by kernel_rfl⟩, trivial⟩ (fun k x => by kernel_rfl) (fun k => ⟨⟨nat_Shift.c k, nat_Div.c k, trivial⟩, trivial, trivial⟩) k
end approx_cut

namespace nat_Small
def s0 : PSig := ⟨0, [], [(0, .val tL), (4, .val (.int .u64)), (12, .val (.int .i64)), (13, .val (.int .i64))]⟩
def ptL : List (Pt (TD [(.int .u64), .bool])) := [⟨0, s0, fun k (x : LX × Int × Int × Int) => nat_Small.p0 k x.1 x.2.1 x.2.2.1 x.2.2.2⟩]
def fns : Nat → List (FuncId × FS) := fun k => [(97, ⟨[tL], [tL], fun (x : LX) => nat_trim.f k x⟩)]
def fs (k : Nat) : FS := ⟨[tL], [(.int .u64), .bool], fun (x : LX) => nat_Small.f k x⟩
theorem ok : FnOk Tryz.prog 68 28 Tryz.f68.results.toList (Tryz.f68.body.getD .skip) 1 := ⟨⟨Tryz.f68, by kernel_rfl, by kernel_rfl, by kernel_rfl, rfl, by kernel_rfl⟩, by kernel_rfl, by decide⟩
theorem c (k : Nat) : Contract Tryz.prog 68 (fs k) :=
  fn_sound (ps := [tL]) (rs := [(.int .u64), .bool]) (pts := ptL) (fns := fns) (fgs := fgs0) (fws := fws0) (tys := tyTab) (main := fun k (x : LX) => nat_Small.f k x) ok mix tyOk ⟨⟨rfl, fun _ => rfl, fun k x => by kernel_rfl⟩, trivial⟩ (fun k x => by kernel_rfl) (fun k => ⟨⟨nat_trim.c k, trivial⟩, trivial, trivial⟩) k
end nat_Small

namespace nat_Add
def s7 : PSig := ⟨0, [], [(0, .val tL), (1, .val tL)]⟩
def s0 : PSig := ⟨0, [(84, (.int .u32), false)], [(0, .val tL), (1, .val tL), (5, .own 0), (6, .val (.int .u32)), (21, .val (.int .i64)), (22, .val (.int .i64))]⟩
def s23 : PSig := ⟨0, [(84, (.int .u32), false)], [(0, .val tL), (1, .val tL), (5, .own 0), (6, .val (.int .u32)), (7, .val (.int .i64)), (8, .val (.int .u32)), (21, .val (.int .i64)), (22, .val (.int .i64))]⟩
def ptL : List (Pt (TD [tL])) := [⟨7, s7, fun k (x : LX × LX) => nat_Add.p7 k x.1 x.2⟩, ⟨0, s0, fun k (x : LX × LX × LX × Int × Int × Int) => nat_Add.p0 k x.1 x.2.1 x.2.2.1 x.2.2.2.1 x.2.2.2.2.1 x.2.2.2.2.2⟩, ⟨23, s23, fun k (x : LX × LX × LX × Int × Int × Int × Int × Int) => nat_Add.p23 k x.1 x.2.1 x.2.2.1 x.2.2.2.1 x.2.2.2.2.1 x.2.2.2.2.2.1 x.2.2.2.2.2.2.1 x.2.2.2.2.2.2.2⟩]
def fns : Nat → List (FuncId × FS) := fun k => [(105, ⟨[(.int .u32), (.int .u32), (.int .u32)], [(.int .u32), (.int .u32)], fun (x : Int × Int × Int) => bits_Add32.f k x.1 x.2.1 x.2.2⟩), (56, ⟨[tL], [tL], fun (x : LX) => nat_own.f k x⟩)]
def fs (k : Nat) : FS := ⟨[tL, tL], [tL], fun (x : LX × LX) => nat_Add.f k x.1 x.2⟩
theorem ok : FnOk Tryz.prog 70 54 Tryz.f70.results.toList (Tryz.f70.body.getD .skip) 2 := ⟨⟨Tryz.f70, by kernel_rfl, by kernel_rfl, by kernel_rfl, rfl, by kernel_rfl⟩, by kernel_rfl, by decide⟩
theorem c (k : Nat) : Contract Tryz.prog 70 (fs k) :=
  fn_sound (ps := [tL, tL]) (rs := [tL]) (pts := ptL) (fns := fns) (fgs := fgs0) (fws := fws0) (tys := tyTab) (main := fun k (x : LX × LX) => nat_Add.f k x.1 x.2) ok mix tyOk ⟨⟨rfl, fun _ => rfl, fun k x => by kernel_rfl⟩, ⟨rfl, fun _ => rfl, fun k x => by kernel_rfl⟩, ⟨rfl, fun _ => rfl, fun k x => by kernel_rfl⟩, trivial⟩ (fun k x => by kernel_rfl) (fun k => ⟨⟨bits_Add32.c k, nat_own.c k, trivial⟩, trivial, trivial⟩) k
end nat_Add

namespace approx_rounded
def s29 : PSig := ⟨0, [], [(7, .val (.int .i64)), (8, .val tL), (9, .val tL), (10, .val tL)]⟩
def s41 : PSig := ⟨0, [], [(9, .val tL), (10, .val tL), (13, .val (.int .u64))]⟩
def ptL : List (Pt (TD [(.int .u64), (.int .i64)])) := [⟨29, s29, fun k (x : Int × LX × LX × LX) => approx_rounded.p29 k x.1 x.2.1 x.2.2.1 x.2.2.2⟩, ⟨41, s41, fun k (x : LX × LX × Int) => approx_rounded.p41 k x.1 x.2.1 x.2.2⟩]
def fns : Nat → List (FuncId × FS) := fun k => [(34, ⟨[tQ], [(.int .i64)], fun (x : RX) => ratio_Sign.f k x⟩), (66, ⟨[tL], [(.int .i64)], fun (x : LX) => nat_Bits.f k x⟩), (18, ⟨[.flt], [(.int .u64)], fun (x : Nat) => math_Float64bits.f k x⟩), (67, ⟨[tL, tL, (.int .i64)], [tL, tL, tL], fun (x : LX × LX × Int) => approx_cut.f k x.1 x.2.1 x.2.2⟩), (68, ⟨[tL], [(.int .u64), .bool], fun (x : LX) => nat_Small.f k x⟩), (70, ⟨[tL, tL], [tL], fun (x : LX × LX) => nat_Add.f k x.1 x.2⟩), (69, ⟨[tL, tL], [(.int .i64)], fun (x : LX × LX) => nat_Cmp.f k x.1 x.2⟩)]
def fs (k : Nat) : FS := ⟨[tQ], [(.int .u64), (.int .i64)], fun (x : RX) => approx_rounded.f k x⟩
theorem ok : FnOk Tryz.prog 31 89 Tryz.f31.results.toList (Tryz.f31.body.getD .skip) 1 := ⟨⟨Tryz.f31, by kernel_rfl, by kernel_rfl, by kernel_rfl, rfl, by kernel_rfl⟩, by kernel_rfl, by decide⟩
theorem c (k : Nat) : Contract Tryz.prog 31 (fs k) :=
  fn_sound (ps := [tQ]) (rs := [(.int .u64), (.int .i64)]) (pts := ptL) (fns := fns) (fgs := fgs0) (fws := fws0) (tys := tyTab) (main := fun k (x : RX) => approx_rounded.f k x) ok mix tyOk ⟨⟨rfl, fun _ => rfl, fun k x => by kernel_rfl⟩, ⟨rfl, fun _ => rfl, fun k x => by kernel_rfl⟩, trivial⟩ (fun k x => by kernel_rfl) (fun k => ⟨⟨ratio_Sign.c k, nat_Bits.c k, math_Float64bits.c k, approx_cut.c k, nat_Small.c k, nat_Add.c k, nat_Cmp.c k, trivial⟩, trivial, trivial⟩) k
end approx_rounded

namespace math_Float64frombits
theorem c (k : Nat) : Contract Tryz.prog 72 ⟨[(.int .u64)], [.flt], fun (x : Int) => math_Float64frombits.f k x⟩ :=
  float64frombits_contract (fn := Tryz.f72) (by kernel_rfl) (by kernel_rfl) (by kernel_rfl) (by kernel_rfl) (by kernel_rfl) (fun _ => rfl)
end math_Float64frombits

namespace approx_float
def s7 : PSig := ⟨0, [], [(0, .val (.int .u64))]⟩
def ptL : List (Pt (TD [.flt])) := [⟨7, s7, fun k (x : Int) => approx_float.p7 k x⟩]
def fns : Nat → List (FuncId × FS) := fun k => [(72, ⟨[(.int .u64)], [.flt], fun (x : Int) => math_Float64frombits.f k x⟩)]
def fs (k : Nat) : FS := ⟨[(.int .u64), (.int .i64)], [.flt], fun (x : Int × Int) => approx_float.f k x.1 x.2⟩
theorem ok : FnOk Tryz.prog 33 11 Tryz.f33.results.toList (Tryz.f33.body.getD .skip) 2 := ⟨⟨Tryz.f33, by kernel_rfl, by kernel_rfl, by kernel_rfl, rfl, by kernel_rfl⟩, by kernel_rfl, by decide⟩
theorem c (k : Nat) : Contract Tryz.prog 33 (fs k) :=
  fn_sound (ps := [(.int .u64), (.int .i64)]) (rs := [.flt]) (pts := ptL) (fns := fns) (fgs := fgs0) (fws := fws0) (tys := tyTab) (main := fun k (x : Int × Int) => approx_float.f k x.1 x.2) ok mix tyOk ⟨⟨rfl, fun _ => rfl, fun k x => by kernel_rfl⟩, trivial⟩ (fun k x => by kernel_rfl) (fun k => ⟨⟨math_Float64frombits.c k, trivial⟩, trivial, trivial⟩) k
end approx_float

namespace approx_Nearest
def s7 : PSig := ⟨0, [(36, tQ, true)], [(1, .ptr 0 []), (3, .val (.int .u64))]⟩
def s9 : PSig := ⟨0, [(36, tQ, true)], [(1, .ptr 0 []), (3, .val (.int .u64))]⟩
def ptL : List (Pt (TD [.flt])) := [⟨7, s7, fun k (x : RX × Int) => approx_Nearest.p7 k x.1 x.2⟩, ⟨9, s9, fun k (x : RX × Int) => approx_Nearest.p9 k x.1 x.2⟩]
def fns : Nat → List (FuncId × FS) := fun k => [(32, ⟨[tQ], [tQ], fun (x : RX) => ratio_Abs.f k x⟩), (31, ⟨[tQ], [(.int .u64), (.int .i64)], fun (x : RX) => approx_rounded.f k x⟩), (34, ⟨[tQ], [(.int .i64)], fun (x : RX) => ratio_Sign.f k x⟩), (33, ⟨[(.int .u64), (.int .i64)], [.flt], fun (x : Int × Int) => approx_float.f k x.1 x.2⟩)]
def fs (k : Nat) : FS := ⟨[tQ], [.flt], fun (x : RX) => approx_Nearest.f k x⟩
theorem ok : FnOk Tryz.prog 12 28 Tryz.f12.results.toList (Tryz.f12.body.getD .skip) 1 := ⟨⟨Tryz.f12, by kernel_rfl, by kernel_rfl, by kernel_rfl, rfl, by kernel_rfl⟩, by kernel_rfl, by decide⟩
theorem c (k : Nat) : Contract Tryz.prog 12 (fs k) :=
  fn_sound (ps := [tQ]) (rs := [.flt]) (pts := ptL) (fns := fns) (fgs := fgs0) (fws := fws0) (tys := tyTab) (main := fun k (x : RX) => approx_Nearest.f k x) ok mix tyOk ⟨⟨rfl, fun _ => rfl, fun k x => by kernel_rfl⟩, ⟨rfl, fun _ => rfl, fun k x => by kernel_rfl⟩, trivial⟩ (fun k x => by kernel_rfl) (fun k => ⟨⟨ratio_Abs.c k, approx_rounded.c k, ratio_Sign.c k, approx_float.c k, trivial⟩, trivial, trivial⟩) k
end approx_Nearest

namespace approx_Read
def ptL : List (Pt (TD [.flt, (.int .i64)])) := []
def fns : Nat → List (FuncId × FS) := fun k => [(16, ⟨[.str, .str], [.str, .bool], fun (x : ByteArray × ByteArray) => strings_CutPrefix.f k x.1 x.2⟩), (17, ⟨[.str], [tQ, .bool], fun (x : ByteArray) => approx_decimal.f k x⟩), (12, ⟨[tQ], [.flt], fun (x : RX) => approx_Nearest.f k x⟩)]
def fs (k : Nat) : FS := ⟨[.str], [.flt, (.int .i64)], fun (x : ByteArray) => approx_Read.f k x⟩
theorem ok : FnOk Tryz.prog 6 31 Tryz.f6.results.toList (Tryz.f6.body.getD .skip) 1 := ⟨⟨Tryz.f6, by kernel_rfl, by kernel_rfl, by kernel_rfl, rfl, by kernel_rfl⟩, by kernel_rfl, by decide⟩
theorem c (k : Nat) : Contract Tryz.prog 6 (fs k) :=
  fn_sound (ps := [.str]) (rs := [.flt, (.int .i64)]) (pts := ptL) (fns := fns) (fgs := fgs0) (fws := fws0) (tys := tyTab) (main := fun k (x : ByteArray) => approx_Read.f k x) ok mix tyOk trivial (fun k x => by kernel_rfl) (fun k => ⟨⟨strings_CutPrefix.c k, approx_decimal.c k, approx_Nearest.c k, trivial⟩, trivial, trivial⟩) k
end approx_Read

namespace ref04_IsNaN
def ptL : List (Pt (TD [.bool])) := []
def fs (k : Nat) : FS := ⟨[(.int .u64)], [.bool], fun (x : Int) => ref04_IsNaN.f k x⟩
theorem ok : FnOk Tryz.prog 19 6 Tryz.f19.results.toList (Tryz.f19.body.getD .skip) 1 := ⟨⟨Tryz.f19, by kernel_rfl, by kernel_rfl, by kernel_rfl, rfl, by kernel_rfl⟩, by kernel_rfl, by decide⟩
theorem c (k : Nat) : Contract Tryz.prog 19 (fs k) :=
  fn_sound (ps := [(.int .u64)]) (rs := [.bool]) (pts := ptL) (fns := fns0) (fgs := fgs0) (fws := fws0) (tys := tyTab) (main := fun k (x : Int) => ref04_IsNaN.f k x) ok mix tyOk trivial (fun k x => by kernel_rfl) (fun _ => ⟨trivial, trivial, trivial⟩) k
end ref04_IsNaN

namespace ref04_IsInf
def ptL : List (Pt (TD [.bool])) := []
def fs (k : Nat) : FS := ⟨[(.int .u64)], [.bool], fun (x : Int) => ref04_IsInf.f k x⟩
theorem ok : FnOk Tryz.prog 20 6 Tryz.f20.results.toList (Tryz.f20.body.getD .skip) 1 := ⟨⟨Tryz.f20, by kernel_rfl, by kernel_rfl, by kernel_rfl, rfl, by kernel_rfl⟩, by kernel_rfl, by decide⟩
theorem c (k : Nat) : Contract Tryz.prog 20 (fs k) :=
  fn_sound (ps := [(.int .u64)]) (rs := [.bool]) (pts := ptL) (fns := fns0) (fgs := fgs0) (fws := fws0) (tys := tyTab) (main := fun k (x : Int) => ref04_IsInf.f k x) ok mix tyOk trivial (fun k x => by kernel_rfl) (fun _ => ⟨trivial, trivial, trivial⟩) k
end ref04_IsInf

namespace law04_finite
def ptL : List (Pt (TD [.bool])) := []
def fns : Nat → List (FuncId × FS) := fun k => [(18, ⟨[.flt], [(.int .u64)], fun (x : Nat) => math_Float64bits.f k x⟩), (19, ⟨[(.int .u64)], [.bool], fun (x : Int) => ref04_IsNaN.f k x⟩), (20, ⟨[(.int .u64)], [.bool], fun (x : Int) => ref04_IsInf.f k x⟩)]
def fs (k : Nat) : FS := ⟨[.flt], [.bool], fun (x : Nat) => law04_finite.f k x⟩
theorem ok : FnOk Tryz.prog 7 14 Tryz.f7.results.toList (Tryz.f7.body.getD .skip) 1 := ⟨⟨Tryz.f7, by kernel_rfl, by kernel_rfl, by kernel_rfl, rfl, by kernel_rfl⟩, by kernel_rfl, by decide⟩
theorem c (k : Nat) : Contract Tryz.prog 7 (fs k) :=
  fn_sound (ps := [.flt]) (rs := [.bool]) (pts := ptL) (fns := fns) (fgs := fgs0) (fws := fws0) (tys := tyTab) (main := fun k (x : Nat) => law04_finite.f k x) ok mix tyOk trivial (fun k x => by kernel_rfl) (fun k => ⟨⟨math_Float64bits.c k, ref04_IsNaN.c k, ref04_IsInf.c k, trivial⟩, trivial, trivial⟩) k
end law04_finite

namespace math_IsNaN
def ptL : List (Pt (TD [.bool])) := []
def fs (k : Nat) : FS := ⟨[.flt], [.bool], fun (x : Nat) => math_IsNaN.f k x⟩
theorem ok : FnOk Tryz.prog 24 6 Tryz.f24.results.toList (Tryz.f24.body.getD .skip) 1 := ⟨⟨Tryz.f24, by kernel_rfl, by kernel_rfl, by kernel_rfl, rfl, by kernel_rfl⟩, by kernel_rfl, by decide⟩
theorem c (k : Nat) : Contract Tryz.prog 24 (fs k) :=
  fn_sound (ps := [.flt]) (rs := [.bool]) (pts := ptL) (fns := fns0) (fgs := fgs0) (fws := fws0) (tys := tyTab) (main := fun k (x : Nat) => math_IsNaN.f k x) ok mix tyOk trivial (fun k x => by kernel_rfl) (fun _ => ⟨trivial, trivial, trivial⟩) k
end math_IsNaN

namespace math_Abs
def ptL : List (Pt (TD [.flt])) := []
def fns : Nat → List (FuncId × FS) := fun k => [(18, ⟨[.flt], [(.int .u64)], fun (x : Nat) => math_Float64bits.f k x⟩), (72, ⟨[(.int .u64)], [.flt], fun (x : Int) => math_Float64frombits.f k x⟩)]
def fs (k : Nat) : FS := ⟨[.flt], [.flt], fun (x : Nat) => math_Abs.f k x⟩
theorem ok : FnOk Tryz.prog 55 7 Tryz.f55.results.toList (Tryz.f55.body.getD .skip) 1 := ⟨⟨Tryz.f55, by kernel_rfl, by kernel_rfl, by kernel_rfl, rfl, by kernel_rfl⟩, by kernel_rfl, by decide⟩
theorem c (k : Nat) : Contract Tryz.prog 55 (fs k) :=
  fn_sound (ps := [.flt]) (rs := [.flt]) (pts := ptL) (fns := fns) (fgs := fgs0) (fws := fws0) (tys := tyTab) (main := fun k (x : Nat) => math_Abs.f k x) ok mix tyOk trivial (fun k x => by kernel_rfl) (fun k => ⟨⟨math_Float64bits.c k, math_Float64frombits.c k, trivial⟩, trivial, trivial⟩) k
end math_Abs

namespace math_IsInf
def s11 : PSig := ⟨0, [], [(0, .val .flt)]⟩
def ptL : List (Pt (TD [.bool])) := [⟨11, s11, fun k (x : Nat) => math_IsInf.p11 k x⟩]
def fns : Nat → List (FuncId × FS) := fun k => [(55, ⟨[.flt], [.flt], fun (x : Nat) => math_Abs.f k x⟩)]
def fs (k : Nat) : FS := ⟨[.flt, (.int .i64)], [.bool], fun (x : Nat × Int) => math_IsInf.f k x.1 x.2⟩
theorem ok : FnOk Tryz.prog 25 15 Tryz.f25.results.toList (Tryz.f25.body.getD .skip) 2 := ⟨⟨Tryz.f25, by kernel_rfl, by kernel_rfl, by kernel_rfl, rfl, by kernel_rfl⟩, by kernel_rfl, by decide⟩
theorem c (k : Nat) : Contract Tryz.prog 25 (fs k) :=
  fn_sound (ps := [.flt, (.int .i64)]) (rs := [.bool]) (pts := ptL) (fns := fns) (fgs := fgs0) (fws := fws0) (tys := tyTab) (main := fun k (x : Nat × Int) => math_IsInf.f k x.1 x.2) ok mix tyOk ⟨⟨rfl, fun _ => rfl, fun k x => by kernel_rfl⟩, trivial⟩ (fun k x => by kernel_rfl) (fun k => ⟨⟨math_Abs.c k, trivial⟩, trivial, trivial⟩) k
end math_IsInf

namespace approx_two
def s11 : PSig := ⟨0, [(36, tQ, true), (36, tQ, true)], [(2, .ptr 0 []), (5, .ptr 1 [])]⟩
def ptL : List (Pt (TD [tQ])) := [⟨11, s11, fun k (x : RX × RX) => approx_two.p11 k x.1 x.2⟩]
def fns : Nat → List (FuncId × FS) := fun k => [(26, ⟨[(.int .u64)], [tL], fun (x : Int) => nat_Of.f k x⟩), (64, ⟨[tL, (.int .i64)], [tL, (.int .i64)], fun (x : LX × Int) => nat_Shift.f k x.1 x.2⟩), (28, ⟨[(.int .i64)], [tZ], fun (x : Int) => whole_Of.f k x⟩), (27, ⟨[tZ, tZ], [tQ, (.int .i64)], fun (x : ZX × ZX) => ratio_Of.f k x.1 x.2⟩), (65, ⟨[tQ], [tQ, (.int .i64)], fun (x : RX) => ratio_Inv.f k x⟩)]
def fs (k : Nat) : FS := ⟨[(.int .i64)], [tQ], fun (x : Int) => approx_two.f k x⟩
theorem ok : FnOk Tryz.prog 30 31 Tryz.f30.results.toList (Tryz.f30.body.getD .skip) 1 := ⟨⟨Tryz.f30, by kernel_rfl, by kernel_rfl, by kernel_rfl, rfl, by kernel_rfl⟩, by kernel_rfl, by decide⟩
theorem c (k : Nat) : Contract Tryz.prog 30 (fs k) :=
  fn_sound (ps := [(.int .i64)]) (rs := [tQ]) (pts := ptL) (fns := fns) (fgs := fgs0) (fws := fws0) (tys := tyTab) (main := fun k (x : Int) => approx_two.f k x) ok mix tyOk ⟨⟨rfl, fun _ => rfl, fun k x => by kernel_rfl⟩, trivial⟩ (fun k x => by kernel_rfl) (fun k => ⟨⟨nat_Of.c k, nat_Shift.c k, whole_Of.c k, ratio_Of.c k, ratio_Inv.c k, trivial⟩, trivial, trivial⟩) k
end approx_two

namespace approx_Exact
def s21 : PSig := ⟨0, [(36, tQ, true)], [(0, .val .flt), (2, .ptr 0 []), (5, .val (.int .u64)), (6, .val (.int .i64))]⟩
def ptL : List (Pt (TD [tQ, (.int .i64)])) := [⟨21, s21, fun k (x : RX × Nat × Int × Int) => approx_Exact.p21 k x.1 x.2.1 x.2.2.1 x.2.2.2⟩]
def fns : Nat → List (FuncId × FS) := fun k => [(24, ⟨[.flt], [.bool], fun (x : Nat) => math_IsNaN.f k x⟩), (25, ⟨[.flt, (.int .i64)], [.bool], fun (x : Nat × Int) => math_IsInf.f k x.1 x.2⟩), (18, ⟨[.flt], [(.int .u64)], fun (x : Nat) => math_Float64bits.f k x⟩), (26, ⟨[(.int .u64)], [tL], fun (x : Int) => nat_Of.f k x⟩), (28, ⟨[(.int .i64)], [tZ], fun (x : Int) => whole_Of.f k x⟩), (27, ⟨[tZ, tZ], [tQ, (.int .i64)], fun (x : ZX × ZX) => ratio_Of.f k x.1 x.2⟩), (30, ⟨[(.int .i64)], [tQ], fun (x : Int) => approx_two.f k x⟩), (29, ⟨[tQ, tQ], [tQ], fun (x : RX × RX) => ratio_Mul.f k x.1 x.2⟩)]
def fs (k : Nat) : FS := ⟨[.flt], [tQ, (.int .i64)], fun (x : Nat) => approx_Exact.f k x⟩
theorem ok : FnOk Tryz.prog 10 48 Tryz.f10.results.toList (Tryz.f10.body.getD .skip) 1 := ⟨⟨Tryz.f10, by kernel_rfl, by kernel_rfl, by kernel_rfl, rfl, by kernel_rfl⟩, by kernel_rfl, by decide⟩
theorem c (k : Nat) : Contract Tryz.prog 10 (fs k) :=
  fn_sound (ps := [.flt]) (rs := [tQ, (.int .i64)]) (pts := ptL) (fns := fns) (fgs := fgs0) (fws := fws0) (tys := tyTab) (main := fun k (x : Nat) => approx_Exact.f k x) ok mix tyOk ⟨⟨rfl, fun _ => rfl, fun k x => by kernel_rfl⟩, trivial⟩ (fun k x => by kernel_rfl) (fun k => ⟨⟨math_IsNaN.c k, math_IsInf.c k, math_Float64bits.c k, nat_Of.c k, whole_Of.c k, ratio_Of.c k, approx_two.c k, ratio_Mul.c k, trivial⟩, trivial, trivial⟩) k
end approx_Exact

namespace math_Signbit
def ptL : List (Pt (TD [.bool])) := []
def fns : Nat → List (FuncId × FS) := fun k => [(18, ⟨[.flt], [(.int .u64)], fun (x : Nat) => math_Float64bits.f k x⟩)]
def fs (k : Nat) : FS := ⟨[.flt], [.bool], fun (x : Nat) => math_Signbit.f k x⟩
theorem ok : FnOk Tryz.prog 21 7 Tryz.f21.results.toList (Tryz.f21.body.getD .skip) 1 := ⟨⟨Tryz.f21, by kernel_rfl, by kernel_rfl, by kernel_rfl, rfl, by kernel_rfl⟩, by kernel_rfl, by decide⟩
theorem c (k : Nat) : Contract Tryz.prog 21 (fs k) :=
  fn_sound (ps := [.flt]) (rs := [.bool]) (pts := ptL) (fns := fns) (fgs := fgs0) (fws := fws0) (tys := tyTab) (main := fun k (x : Nat) => math_Signbit.f k x) ok mix tyOk trivial (fun k x => by kernel_rfl) (fun k => ⟨⟨math_Float64bits.c k, trivial⟩, trivial, trivial⟩) k
end math_Signbit

namespace nat_Sub
def s0 : PSig := ⟨0, [(84, (.int .u32), false)], [(0, .val tL), (1, .val tL), (6, .own 0), (7, .val (.int .u32)), (20, .val (.int .i64)), (21, .val (.int .i64))]⟩
def s25 : PSig := ⟨0, [(84, (.int .u32), false)], [(0, .val tL), (1, .val tL), (6, .own 0), (7, .val (.int .u32)), (8, .val (.int .i64)), (9, .val (.int .u32)), (20, .val (.int .i64)), (21, .val (.int .i64))]⟩
def ptL : List (Pt (TD [tL, (.int .i64)])) := [⟨0, s0, fun k (x : LX × LX × LX × Int × Int × Int) => nat_Sub.p0 k x.1 x.2.1 x.2.2.1 x.2.2.2.1 x.2.2.2.2.1 x.2.2.2.2.2⟩, ⟨25, s25, fun k (x : LX × LX × LX × Int × Int × Int × Int × Int) => nat_Sub.p25 k x.1 x.2.1 x.2.2.1 x.2.2.2.1 x.2.2.2.2.1 x.2.2.2.2.2.1 x.2.2.2.2.2.2.1 x.2.2.2.2.2.2.2⟩]
def fns : Nat → List (FuncId × FS) := fun k => [(69, ⟨[tL, tL], [(.int .i64)], fun (x : LX × LX) => nat_Cmp.f k x.1 x.2⟩), (97, ⟨[tL], [tL], fun (x : LX) => nat_trim.f k x⟩), (125, ⟨[(.int .u32), (.int .u32), (.int .u32)], [(.int .u32), (.int .u32)], fun (x : Int × Int × Int) => bits_Sub32.f k x.1 x.2.1 x.2.2⟩), (56, ⟨[tL], [tL], fun (x : LX) => nat_own.f k x⟩)]
def fs (k : Nat) : FS := ⟨[tL, tL], [tL, (.int .i64)], fun (x : LX × LX) => nat_Sub.f k x.1 x.2⟩
theorem ok : FnOk Tryz.prog 92 48 Tryz.f92.results.toList (Tryz.f92.body.getD .skip) 2 := ⟨⟨Tryz.f92, by kernel_rfl, by kernel_rfl, by kernel_rfl, rfl, by kernel_rfl⟩, by kernel_rfl, by decide⟩
theorem c (k : Nat) : Contract Tryz.prog 92 (fs k) :=
  fn_sound (ps := [tL, tL]) (rs := [tL, (.int .i64)]) (pts := ptL) (fns := fns) (fgs := fgs0) (fws := fws0) (tys := tyTab) (main := fun k (x : LX × LX) => nat_Sub.f k x.1 x.2) ok mix tyOk ⟨⟨rfl, fun _ => rfl, fun k x => by kernel_rfl⟩, ⟨rfl, fun _ => rfl, fun k x => by kernel_rfl⟩, trivial⟩ (fun k x => by kernel_rfl) (fun k => ⟨⟨nat_Cmp.c k, nat_trim.c k, bits_Sub32.c k, nat_own.c k, trivial⟩, trivial, trivial⟩) k
end nat_Sub

namespace whole_Add
def ptL : List (Pt (TD [tZ])) := []
def fns : Nat → List (FuncId × FS) := fun k => [(57, ⟨[tZ], [(.int .i64)], fun (x : ZX) => whole_Sign.f k x⟩), (70, ⟨[tL, tL], [tL], fun (x : LX × LX) => nat_Add.f k x.1 x.2⟩), (60, ⟨[tL, (.list (.int .i64))], [tZ], fun (x : LX × LX) => whole_signed.f k x.1 x.2⟩), (69, ⟨[tL, tL], [(.int .i64)], fun (x : LX × LX) => nat_Cmp.f k x.1 x.2⟩), (92, ⟨[tL, tL], [tL, (.int .i64)], fun (x : LX × LX) => nat_Sub.f k x.1 x.2⟩)]
def fs (k : Nat) : FS := ⟨[tZ, tZ], [tZ], fun (x : ZX × ZX) => whole_Add.f k x.1 x.2⟩
theorem ok : FnOk Tryz.prog 50 60 Tryz.f50.results.toList (Tryz.f50.body.getD .skip) 2 := ⟨⟨Tryz.f50, by kernel_rfl, by kernel_rfl, by kernel_rfl, rfl, by kernel_rfl⟩, by kernel_rfl, by decide⟩
theorem c (k : Nat) : Contract Tryz.prog 50 (fs k) :=
  fn_sound (ps := [tZ, tZ]) (rs := [tZ]) (pts := ptL) (fns := fns) (fgs := fgs0) (fws := fws0) (tys := tyTab) (main := fun k (x : ZX × ZX) => whole_Add.f k x.1 x.2) ok mix tyOk trivial (fun k x => by kernel_rfl) (fun k => ⟨⟨whole_Sign.c k, nat_Add.c k, whole_signed.c k, nat_Cmp.c k, nat_Sub.c k, trivial⟩, trivial, trivial⟩) k
end whole_Add

namespace whole_Sub
def ptL : List (Pt (TD [tZ])) := []
def fns : Nat → List (FuncId × FS) := fun k => [(58, ⟨[tZ], [tZ], fun (x : ZX) => whole_Neg.f k x⟩), (50, ⟨[tZ, tZ], [tZ], fun (x : ZX × ZX) => whole_Add.f k x.1 x.2⟩)]
def fs (k : Nat) : FS := ⟨[tZ, tZ], [tZ], fun (x : ZX × ZX) => whole_Sub.f k x.1 x.2⟩
theorem ok : FnOk Tryz.prog 122 9 Tryz.f122.results.toList (Tryz.f122.body.getD .skip) 2 := ⟨⟨Tryz.f122, by kernel_rfl, by kernel_rfl, by kernel_rfl, rfl, by kernel_rfl⟩, by kernel_rfl, by decide⟩
theorem c (k : Nat) : Contract Tryz.prog 122 (fs k) :=
  fn_sound (ps := [tZ, tZ]) (rs := [tZ]) (pts := ptL) (fns := fns) (fgs := fgs0) (fws := fws0) (tys := tyTab) (main := fun k (x : ZX × ZX) => whole_Sub.f k x.1 x.2) ok mix tyOk trivial (fun k x => by kernel_rfl) (fun k => ⟨⟨whole_Neg.c k, whole_Add.c k, trivial⟩, trivial, trivial⟩) k
end whole_Sub

namespace whole_Cmp
def ptL : List (Pt (TD [(.int .i64)])) := []
def fns : Nat → List (FuncId × FS) := fun k => [(122, ⟨[tZ, tZ], [tZ], fun (x : ZX × ZX) => whole_Sub.f k x.1 x.2⟩), (57, ⟨[tZ], [(.int .i64)], fun (x : ZX) => whole_Sign.f k x⟩)]
def fs (k : Nat) : FS := ⟨[tZ, tZ], [(.int .i64)], fun (x : ZX × ZX) => whole_Cmp.f k x.1 x.2⟩
theorem ok : FnOk Tryz.prog 90 9 Tryz.f90.results.toList (Tryz.f90.body.getD .skip) 2 := ⟨⟨Tryz.f90, by kernel_rfl, by kernel_rfl, by kernel_rfl, rfl, by kernel_rfl⟩, by kernel_rfl, by decide⟩
theorem c (k : Nat) : Contract Tryz.prog 90 (fs k) :=
  fn_sound (ps := [tZ, tZ]) (rs := [(.int .i64)]) (pts := ptL) (fns := fns) (fgs := fgs0) (fws := fws0) (tys := tyTab) (main := fun k (x : ZX × ZX) => whole_Cmp.f k x.1 x.2) ok mix tyOk trivial (fun k x => by kernel_rfl) (fun k => ⟨⟨whole_Sub.c k, whole_Sign.c k, trivial⟩, trivial, trivial⟩) k
end whole_Cmp

namespace ratio_Cmp
def ptL : List (Pt (TD [(.int .i64)])) := []
def fns : Nat → List (FuncId × FS) := fun k => [(61, ⟨[tQ], [tQ], fun (x : RX) => ratio_Norm.f k x⟩), (62, ⟨[tZ, tZ], [tZ], fun (x : ZX × ZX) => whole_Mul.f k x.1 x.2⟩), (90, ⟨[tZ, tZ], [(.int .i64)], fun (x : ZX × ZX) => whole_Cmp.f k x.1 x.2⟩)]
def fs (k : Nat) : FS := ⟨[tQ, tQ], [(.int .i64)], fun (x : RX × RX) => ratio_Cmp.f k x.1 x.2⟩
theorem ok : FnOk Tryz.prog 47 22 Tryz.f47.results.toList (Tryz.f47.body.getD .skip) 2 := ⟨⟨Tryz.f47, by kernel_rfl, by kernel_rfl, by kernel_rfl, rfl, by kernel_rfl⟩, by kernel_rfl, by decide⟩
theorem c (k : Nat) : Contract Tryz.prog 47 (fs k) :=
  fn_sound (ps := [tQ, tQ]) (rs := [(.int .i64)]) (pts := ptL) (fns := fns) (fgs := fgs0) (fws := fws0) (tys := tyTab) (main := fun k (x : RX × RX) => ratio_Cmp.f k x.1 x.2) ok mix tyOk trivial (fun k x => by kernel_rfl) (fun k => ⟨⟨ratio_Norm.c k, whole_Mul.c k, whole_Cmp.c k, trivial⟩, trivial, trivial⟩) k
end ratio_Cmp

namespace approx_power
def s0 : PSig := ⟨0, [(36, tQ, true)], [(1, .ptr 0 []), (3, .val (.int .i64))]⟩
def ptL : List (Pt (TD [(.int .i64)])) := [⟨0, s0, fun k (x : RX × Int) => approx_power.p0 k x.1 x.2⟩]
def fns : Nat → List (FuncId × FS) := fun k => [(46, ⟨[(.int .i64)], [tQ], fun (x : Int) => approx_ten.f k x⟩), (47, ⟨[tQ, tQ], [(.int .i64)], fun (x : RX × RX) => ratio_Cmp.f k x.1 x.2⟩)]
def fs (k : Nat) : FS := ⟨[tQ], [(.int .i64)], fun (x : RX) => approx_power.f k x⟩
theorem ok : FnOk Tryz.prog 22 13 Tryz.f22.results.toList (Tryz.f22.body.getD .skip) 1 := ⟨⟨Tryz.f22, by kernel_rfl, by kernel_rfl, by kernel_rfl, rfl, by kernel_rfl⟩, by kernel_rfl, by decide⟩
theorem c (k : Nat) : Contract Tryz.prog 22 (fs k) :=
  fn_sound (ps := [tQ]) (rs := [(.int .i64)]) (pts := ptL) (fns := fns) (fgs := fgs0) (fws := fws0) (tys := tyTab) (main := fun k (x : RX) => approx_power.f k x) ok mix tyOk ⟨⟨rfl, fun _ => rfl, fun k x => by kernel_rfl⟩, trivial⟩ (fun k x => by kernel_rfl) (fun k => ⟨⟨approx_ten.c k, ratio_Cmp.c k, trivial⟩, trivial, trivial⟩) k
end approx_power

namespace ratio_Div
def ptL : List (Pt (TD [tQ, (.int .i64)])) := []
def fns : Nat → List (FuncId × FS) := fun k => [(65, ⟨[tQ], [tQ, (.int .i64)], fun (x : RX) => ratio_Inv.f k x⟩), (29, ⟨[tQ, tQ], [tQ], fun (x : RX × RX) => ratio_Mul.f k x.1 x.2⟩)]
def fs (k : Nat) : FS := ⟨[tQ, tQ], [tQ, (.int .i64)], fun (x : RX × RX) => ratio_Div.f k x.1 x.2⟩
theorem ok : FnOk Tryz.prog 48 20 Tryz.f48.results.toList (Tryz.f48.body.getD .skip) 2 := ⟨⟨Tryz.f48, by kernel_rfl, by kernel_rfl, by kernel_rfl, rfl, by kernel_rfl⟩, by kernel_rfl, by decide⟩
theorem c (k : Nat) : Contract Tryz.prog 48 (fs k) :=
  fn_sound (ps := [tQ, tQ]) (rs := [tQ, (.int .i64)]) (pts := ptL) (fns := fns) (fgs := fgs0) (fws := fws0) (tys := tyTab) (main := fun k (x : RX × RX) => ratio_Div.f k x.1 x.2) ok mix tyOk trivial (fun k x => by kernel_rfl) (fun k => ⟨⟨ratio_Inv.c k, ratio_Mul.c k, trivial⟩, trivial, trivial⟩) k
end ratio_Div

namespace whole_Quo
def ptL : List (Pt (TD [tZ, tZ, (.int .i64)])) := []
def fns : Nat → List (FuncId × FS) := fun k => [(100, ⟨[tL, tL], [tL, tL, (.int .i64)], fun (x : LX × LX) => nat_Div.f k x.1 x.2⟩), (57, ⟨[tZ], [(.int .i64)], fun (x : ZX) => whole_Sign.f k x⟩), (60, ⟨[tL, (.list (.int .i64))], [tZ], fun (x : LX × LX) => whole_signed.f k x.1 x.2⟩)]
def fs (k : Nat) : FS := ⟨[tZ, tZ], [tZ, tZ, (.int .i64)], fun (x : ZX × ZX) => whole_Quo.f k x.1 x.2⟩
theorem ok : FnOk Tryz.prog 123 36 Tryz.f123.results.toList (Tryz.f123.body.getD .skip) 2 := ⟨⟨Tryz.f123, by kernel_rfl, by kernel_rfl, by kernel_rfl, rfl, by kernel_rfl⟩, by kernel_rfl, by decide⟩
theorem c (k : Nat) : Contract Tryz.prog 123 (fs k) :=
  fn_sound (ps := [tZ, tZ]) (rs := [tZ, tZ, (.int .i64)]) (pts := ptL) (fns := fns) (fgs := fgs0) (fws := fws0) (tys := tyTab) (main := fun k (x : ZX × ZX) => whole_Quo.f k x.1 x.2) ok mix tyOk trivial (fun k x => by kernel_rfl) (fun k => ⟨⟨nat_Div.c k, whole_Sign.c k, whole_signed.c k, trivial⟩, trivial, trivial⟩) k
end whole_Quo

namespace whole_moved
def ptL : List (Pt (TD [tZ, tZ, (.int .i64)])) := []
def fns : Nat → List (FuncId × FS) := fun k => [(57, ⟨[tZ], [(.int .i64)], fun (x : ZX) => whole_Sign.f k x⟩), (28, ⟨[(.int .i64)], [tZ], fun (x : Int) => whole_Of.f k x⟩), (50, ⟨[tZ, tZ], [tZ], fun (x : ZX × ZX) => whole_Add.f k x.1 x.2⟩), (122, ⟨[tZ, tZ], [tZ], fun (x : ZX × ZX) => whole_Sub.f k x.1 x.2⟩)]
def fs (k : Nat) : FS := ⟨[tZ, tZ, tZ, .bool], [tZ, tZ, (.int .i64)], fun (x : ZX × ZX × ZX × Bool) => whole_moved.f k x.1 x.2.1 x.2.2.1 x.2.2.2⟩
theorem ok : FnOk Tryz.prog 124 32 Tryz.f124.results.toList (Tryz.f124.body.getD .skip) 4 := ⟨⟨Tryz.f124, by kernel_rfl, by kernel_rfl, by kernel_rfl, rfl, by kernel_rfl⟩, by kernel_rfl, by decide⟩
theorem c (k : Nat) : Contract Tryz.prog 124 (fs k) :=
  fn_sound (ps := [tZ, tZ, tZ, .bool]) (rs := [tZ, tZ, (.int .i64)]) (pts := ptL) (fns := fns) (fgs := fgs0) (fws := fws0) (tys := tyTab) (main := fun k (x : ZX × ZX × ZX × Bool) => whole_moved.f k x.1 x.2.1 x.2.2.1 x.2.2.2) ok mix tyOk trivial (fun k x => by kernel_rfl) (fun k => ⟨⟨whole_Sign.c k, whole_Of.c k, whole_Add.c k, whole_Sub.c k, trivial⟩, trivial, trivial⟩) k
end whole_moved

namespace whole_Floor
def ptL : List (Pt (TD [tZ, tZ, (.int .i64)])) := []
def fns : Nat → List (FuncId × FS) := fun k => [(123, ⟨[tZ, tZ], [tZ, tZ, (.int .i64)], fun (x : ZX × ZX) => whole_Quo.f k x.1 x.2⟩), (57, ⟨[tZ], [(.int .i64)], fun (x : ZX) => whole_Sign.f k x⟩), (124, ⟨[tZ, tZ, tZ, .bool], [tZ, tZ, (.int .i64)], fun (x : ZX × ZX × ZX × Bool) => whole_moved.f k x.1 x.2.1 x.2.2.1 x.2.2.2⟩)]
def fs (k : Nat) : FS := ⟨[tZ, tZ], [tZ, tZ, (.int .i64)], fun (x : ZX × ZX) => whole_Floor.f k x.1 x.2⟩
theorem ok : FnOk Tryz.prog 91 35 Tryz.f91.results.toList (Tryz.f91.body.getD .skip) 2 := ⟨⟨Tryz.f91, by kernel_rfl, by kernel_rfl, by kernel_rfl, rfl, by kernel_rfl⟩, by kernel_rfl, by decide⟩
theorem c (k : Nat) : Contract Tryz.prog 91 (fs k) :=
  fn_sound (ps := [tZ, tZ]) (rs := [tZ, tZ, (.int .i64)]) (pts := ptL) (fns := fns) (fgs := fgs0) (fws := fws0) (tys := tyTab) (main := fun k (x : ZX × ZX) => whole_Floor.f k x.1 x.2) ok mix tyOk trivial (fun k x => by kernel_rfl) (fun k => ⟨⟨whole_Quo.c k, whole_Sign.c k, whole_moved.c k, trivial⟩, trivial, trivial⟩) k
end whole_Floor

namespace ratio_Floor
def ptL : List (Pt (TD [tZ])) := []
def fns : Nat → List (FuncId × FS) := fun k => [(61, ⟨[tQ], [tQ], fun (x : RX) => ratio_Norm.f k x⟩), (91, ⟨[tZ, tZ], [tZ, tZ, (.int .i64)], fun (x : ZX × ZX) => whole_Floor.f k x.1 x.2⟩)]
def fs (k : Nat) : FS := ⟨[tQ], [tZ], fun (x : RX) => ratio_Floor.f k x⟩
theorem ok : FnOk Tryz.prog 49 19 Tryz.f49.results.toList (Tryz.f49.body.getD .skip) 1 := ⟨⟨Tryz.f49, by kernel_rfl, by kernel_rfl, by kernel_rfl, rfl, by kernel_rfl⟩, by kernel_rfl, by decide⟩
theorem c (k : Nat) : Contract Tryz.prog 49 (fs k) :=
  fn_sound (ps := [tQ]) (rs := [tZ]) (pts := ptL) (fns := fns) (fgs := fgs0) (fws := fws0) (tys := tyTab) (main := fun k (x : RX) => ratio_Floor.f k x) ok mix tyOk trivial (fun k x => by kernel_rfl) (fun k => ⟨⟨ratio_Norm.c k, whole_Floor.c k, trivial⟩, trivial, trivial⟩) k
end ratio_Floor

namespace nat_Text
def s5 : PSig := ⟨0, [], []⟩
def s0 : PSig := ⟨0, [(5, (.int .u8), false)], [(1, .val (.int .i64)), (6, .own 0), (7, .val tL)]⟩
def s4 : PSig := ⟨0, [(5, (.int .u8), false), (5, (.int .u8), false)], [(6, .own 0), (9, .own 1), (43, .val (.int .i64)), (44, .val (.int .i64))]⟩
def ptL : List (Pt (TD [.str, (.int .i64)])) := [⟨5, s5, fun k (x : Unit) => nat_Text.p5 k x⟩, ⟨0, s0, fun k (x : LX × Int × LX) => nat_Text.p0 k x.1 x.2.1 x.2.2⟩, ⟨4, s4, fun k (x : LX × LX × Int × Int) => nat_Text.p4 k x.1 x.2.1 x.2.2.1 x.2.2.2⟩]
def fns : Nat → List (FuncId × FS) := fun k => [(56, ⟨[tL], [tL], fun (x : LX) => nat_own.f k x⟩), (126, ⟨[tL, (.int .u32)], [tL, (.int .u32)], fun (x : LX × Int) => nat_short.f k x.1 x.2⟩), (97, ⟨[tL], [tL], fun (x : LX) => nat_trim.f k x⟩)]
def fs (k : Nat) : FS := ⟨[tL, (.int .i64)], [.str, (.int .i64)], fun (x : LX × Int) => nat_Text.f k x.1 x.2⟩
theorem ok : FnOk Tryz.prog 93 61 Tryz.f93.results.toList (Tryz.f93.body.getD .skip) 2 := ⟨⟨Tryz.f93, by kernel_rfl, by kernel_rfl, by kernel_rfl, rfl, by kernel_rfl⟩, by kernel_rfl, by decide⟩
theorem c (k : Nat) : Contract Tryz.prog 93 (fs k) :=
  fn_sound (ps := [tL, (.int .i64)]) (rs := [.str, (.int .i64)]) (pts := ptL) (fns := fns) (fgs := fgs0) (fws := fws0) (tys := tyTab) (main := fun k (x : LX × Int) => nat_Text.f k x.1 x.2) ok mix tyOk ⟨⟨rfl, fun _ => rfl, fun k x => by kernel_rfl⟩, ⟨rfl, fun _ => rfl, fun k x => by kernel_rfl⟩, ⟨rfl, fun _ => rfl, fun k x => by kernel_rfl⟩, trivial⟩ (fun k x => by kernel_rfl) (fun k => ⟨⟨nat_own.c k, nat_short.c k, nat_trim.c k, trivial⟩, trivial, trivial⟩) k
end nat_Text

namespace whole_Text
def ptL : List (Pt (TD [.str])) := []
def fns : Nat → List (FuncId × FS) := fun k => [(93, ⟨[tL, (.int .i64)], [.str, (.int .i64)], fun (x : LX × Int) => nat_Text.f k x.1 x.2⟩), (57, ⟨[tZ], [(.int .i64)], fun (x : ZX) => whole_Sign.f k x⟩)]
def fs (k : Nat) : FS := ⟨[tZ], [.str], fun (x : ZX) => whole_Text.f k x⟩
theorem ok : FnOk Tryz.prog 51 17 Tryz.f51.results.toList (Tryz.f51.body.getD .skip) 1 := ⟨⟨Tryz.f51, by kernel_rfl, by kernel_rfl, by kernel_rfl, rfl, by kernel_rfl⟩, by kernel_rfl, by decide⟩
theorem c (k : Nat) : Contract Tryz.prog 51 (fs k) :=
  fn_sound (ps := [tZ]) (rs := [.str]) (pts := ptL) (fns := fns) (fgs := fgs0) (fws := fws0) (tys := tyTab) (main := fun k (x : ZX) => whole_Text.f k x) ok mix tyOk trivial (fun k x => by kernel_rfl) (fun k => ⟨⟨nat_Text.c k, whole_Sign.c k, trivial⟩, trivial, trivial⟩) k
end whole_Text

namespace strings_trimRightByte
def s0 : PSig := ⟨0, [], [(0, .val .str), (1, .val (.int .u8))]⟩
def s7 : PSig := ⟨0, [], [(0, .val .str)]⟩
def ptL : List (Pt (TD [.str])) := [⟨0, s0, fun k (x : ByteArray × Int) => strings_trimRightByte.p0 k x.1 x.2⟩, ⟨7, s7, fun k (x : ByteArray) => strings_trimRightByte.p7 k x⟩]
def fs (k : Nat) : FS := ⟨[.str, (.int .u8)], [.str], fun (x : ByteArray × Int) => strings_trimRightByte.f k x.1 x.2⟩
theorem ok : FnOk Tryz.prog 127 23 Tryz.f127.results.toList (Tryz.f127.body.getD .skip) 2 := ⟨⟨Tryz.f127, by kernel_rfl, by kernel_rfl, by kernel_rfl, rfl, by kernel_rfl⟩, by kernel_rfl, by decide⟩
theorem c (k : Nat) : Contract Tryz.prog 127 (fs k) :=
  fn_sound (ps := [.str, (.int .u8)]) (rs := [.str]) (pts := ptL) (fns := fns0) (fgs := fgs0) (fws := fws0) (tys := tyTab) (main := fun k (x : ByteArray × Int) => strings_trimRightByte.f k x.1 x.2) ok mix tyOk ⟨⟨rfl, fun _ => rfl, fun k x => by kernel_rfl⟩, ⟨rfl, fun _ => rfl, fun k x => by kernel_rfl⟩, trivial⟩ (fun k x => by kernel_rfl) (fun _ => ⟨trivial, trivial, trivial⟩) k
end strings_trimRightByte

namespace utf8_RuneStart
def ptL : List (Pt (TD [.bool])) := []
def fs (k : Nat) : FS := ⟨[(.int .u8)], [.bool], fun (x : Int) => utf8_RuneStart.f k x⟩
theorem ok : FnOk Tryz.prog 153 6 Tryz.f153.results.toList (Tryz.f153.body.getD .skip) 1 := ⟨⟨Tryz.f153, by kernel_rfl, by kernel_rfl, by kernel_rfl, rfl, by kernel_rfl⟩, by kernel_rfl, by decide⟩
theorem c (k : Nat) : Contract Tryz.prog 153 (fs k) :=
  fn_sound (ps := [(.int .u8)]) (rs := [.bool]) (pts := ptL) (fns := fns0) (fgs := fgs0) (fws := fws0) (tys := tyTab) (main := fun k (x : Int) => utf8_RuneStart.f k x) ok mix tyOk trivial (fun k x => by kernel_rfl) (fun _ => ⟨trivial, trivial, trivial⟩) k
end utf8_RuneStart

namespace utf8_DecodeLastRuneInString
def s0 : PSig := ⟨0, [], [(0, .val .str), (4, .val (.int .i64)), (5, .val (.int .i64)), (6, .val (.int .i64))]⟩
def s27 : PSig := ⟨0, [], [(0, .val .str), (4, .val (.int .i64)), (5, .val (.int .i64))]⟩
def s31 : PSig := ⟨0, [], [(0, .val .str), (4, .val (.int .i64)), (5, .val (.int .i64))]⟩
def ptL : List (Pt (TD [(.int .i32), (.int .i64)])) := [⟨0, s0, fun k (x : ByteArray × Int × Int × Int) => utf8_DecodeLastRuneInString.p0 k x.1 x.2.1 x.2.2.1 x.2.2.2⟩, ⟨27, s27, fun k (x : ByteArray × Int × Int) => utf8_DecodeLastRuneInString.p27 k x.1 x.2.1 x.2.2⟩, ⟨31, s31, fun k (x : ByteArray × Int × Int) => utf8_DecodeLastRuneInString.p31 k x.1 x.2.1 x.2.2⟩]
def fns : Nat → List (FuncId × FS) := fun k => [(153, ⟨[(.int .u8)], [.bool], fun (x : Int) => utf8_RuneStart.f k x⟩), (136, ⟨[.str], [(.int .i32), (.int .i64)], fun (x : ByteArray) => utf8_DecodeRuneInString.f k x⟩)]
def fs (k : Nat) : FS := ⟨[.str], [(.int .i32), (.int .i64)], fun (x : ByteArray) => utf8_DecodeLastRuneInString.f k x⟩
theorem ok : FnOk Tryz.prog 144 51 Tryz.f144.results.toList (Tryz.f144.body.getD .skip) 1 := ⟨⟨Tryz.f144, by kernel_rfl, by kernel_rfl, by kernel_rfl, rfl, by kernel_rfl⟩, by kernel_rfl, by decide⟩
theorem c (k : Nat) : Contract Tryz.prog 144 (fs k) :=
  fn_sound (ps := [.str]) (rs := [(.int .i32), (.int .i64)]) (pts := ptL) (fns := fns) (fgs := fgs0) (fws := fws0) (tys := tyTab) (main := fun k (x : ByteArray) => utf8_DecodeLastRuneInString.f k x) ok mix tyOk ⟨⟨rfl, fun _ => rfl, fun k x => by kernel_rfl⟩, ⟨rfl, fun _ => rfl, fun k x => by kernel_rfl⟩, ⟨rfl, fun _ => rfl, fun k x => by kernel_rfl⟩, trivial⟩ (fun k x => by kernel_rfl) (fun k => ⟨⟨utf8_RuneStart.c k, utf8_DecodeRuneInString.c k, trivial⟩, trivial, trivial⟩) k
end utf8_DecodeLastRuneInString

namespace strings_trimRightUnicode
def s0 : PSig := ⟨0, [], [(0, .val .str), (1, .val .str)]⟩
def s11 : PSig := ⟨0, [], [(0, .val .str), (1, .val .str), (5, .val (.int .i32)), (6, .val (.int .i64))]⟩
def ptL : List (Pt (TD [.str])) := [⟨0, s0, fun k (x : ByteArray × ByteArray) => strings_trimRightUnicode.p0 k x.1 x.2⟩, ⟨11, s11, fun k (x : ByteArray × ByteArray × Int × Int) => strings_trimRightUnicode.p11 k x.1 x.2.1 x.2.2.1 x.2.2.2⟩]
def fns : Nat → List (FuncId × FS) := fun k => [(144, ⟨[.str], [(.int .i32), (.int .i64)], fun (x : ByteArray) => utf8_DecodeLastRuneInString.f k x⟩), (137, ⟨[.str, (.int .i32)], [.bool], fun (x : ByteArray × Int) => strings_ContainsRune.f k x.1 x.2⟩)]
def fs (k : Nat) : FS := ⟨[.str, .str], [.str], fun (x : ByteArray × ByteArray) => strings_trimRightUnicode.f k x.1 x.2⟩
theorem ok : FnOk Tryz.prog 129 34 Tryz.f129.results.toList (Tryz.f129.body.getD .skip) 2 := ⟨⟨Tryz.f129, by kernel_rfl, by kernel_rfl, by kernel_rfl, rfl, by kernel_rfl⟩, by kernel_rfl, by decide⟩
theorem c (k : Nat) : Contract Tryz.prog 129 (fs k) :=
  fn_sound (ps := [.str, .str]) (rs := [.str]) (pts := ptL) (fns := fns) (fgs := fgs0) (fws := fws0) (tys := tyTab) (main := fun k (x : ByteArray × ByteArray) => strings_trimRightUnicode.f k x.1 x.2) ok mix tyOk ⟨⟨rfl, fun _ => rfl, fun k x => by kernel_rfl⟩, ⟨rfl, fun _ => rfl, fun k x => by kernel_rfl⟩, trivial⟩ (fun k x => by kernel_rfl) (fun k => ⟨⟨utf8_DecodeLastRuneInString.c k, strings_ContainsRune.c k, trivial⟩, trivial, trivial⟩) k
end strings_trimRightUnicode

namespace strings_TrimRight
def s5 : PSig := ⟨0, [], [(0, .val .str)]⟩
def s11 : PSig := ⟨0, [], [(0, .val .str), (1, .val .str)]⟩
def ptL : List (Pt (TD [.str])) := [⟨5, s5, fun k (x : ByteArray) => strings_TrimRight.p5 k x⟩, ⟨11, s11, fun k (x : ByteArray × ByteArray) => strings_TrimRight.p11 k x.1 x.2⟩]
def fns : Nat → List (FuncId × FS) := fun k => [(127, ⟨[.str, (.int .u8)], [.str], fun (x : ByteArray × Int) => strings_trimRightByte.f k x.1 x.2⟩)]
def fs (k : Nat) : FS := ⟨[.str, .str], [.str], fun (x : ByteArray × ByteArray) => strings_TrimRight.f k x.1 x.2⟩
theorem ok : FnOk Tryz.prog 94 37 Tryz.f94.results.toList (Tryz.f94.body.getD .skip) 2 := ⟨⟨Tryz.f94, by kernel_rfl, by kernel_rfl, by kernel_rfl, rfl, by kernel_rfl⟩, by kernel_rfl, by decide⟩
theorem c (k : Nat) : Contract Tryz.prog 94 (fs k) :=
  fn_sound (ps := [.str, .str]) (rs := [.str]) (pts := ptL) (fns := fns) (fgs := fgs0) (fws := fws0) (tys := tyTab) (main := fun k (x : ByteArray × ByteArray) => strings_TrimRight.f k x.1 x.2) ok mix tyOk ⟨⟨rfl, fun _ => rfl, fun k x => by kernel_rfl⟩, ⟨rfl, fun _ => rfl, fun k x => by kernel_rfl⟩, trivial⟩ (fun k x => by kernel_rfl) (fun k => ⟨⟨strings_trimRightByte.c k, trivial⟩, trivial, trivial⟩) k
end strings_TrimRight

namespace approx_text
def s9 : PSig := ⟨0, [], [(0, .val .str), (1, .val (.int .i64))]⟩
def ptL : List (Pt (TD [.str])) := [⟨9, s9, fun k (x : ByteArray × Int) => approx_text.p9 k x.1 x.2⟩]
def fns : Nat → List (FuncId × FS) := fun k => [(94, ⟨[.str, .str], [.str], fun (x : ByteArray × ByteArray) => strings_TrimRight.f k x.1 x.2⟩), (95, ⟨[(.int .i64)], [.str], fun (x : Int) => strconv_Itoa.f k x⟩)]
def fs (k : Nat) : FS := ⟨[.str, (.int .i64)], [.str], fun (x : ByteArray × Int) => approx_text.f k x.1 x.2⟩
theorem ok : FnOk Tryz.prog 52 21 Tryz.f52.results.toList (Tryz.f52.body.getD .skip) 2 := ⟨⟨Tryz.f52, by kernel_rfl, by kernel_rfl, by kernel_rfl, rfl, by kernel_rfl⟩, by kernel_rfl, by decide⟩
theorem c (k : Nat) : Contract Tryz.prog 52 (fs k) :=
  fn_sound (ps := [.str, (.int .i64)]) (rs := [.str]) (pts := ptL) (fns := fns) (fgs := fgs0) (fws := fws0) (tys := tyTab) (main := fun k (x : ByteArray × Int) => approx_text.f k x.1 x.2) ok mix tyOk ⟨⟨rfl, fun _ => rfl, fun k x => by kernel_rfl⟩, trivial⟩ (fun k x => by kernel_rfl) (fun k => ⟨⟨strings_TrimRight.c k, strconv_Itoa.c k, trivial⟩, trivial, trivial⟩) k
end approx_text

namespace ratio_Add
def ptL : List (Pt (TD [tQ])) := []
def fns : Nat → List (FuncId × FS) := fun k => [(61, ⟨[tQ], [tQ], fun (x : RX) => ratio_Norm.f k x⟩), (62, ⟨[tZ, tZ], [tZ], fun (x : ZX × ZX) => whole_Mul.f k x.1 x.2⟩), (50, ⟨[tZ, tZ], [tZ], fun (x : ZX × ZX) => whole_Add.f k x.1 x.2⟩), (63, ⟨[tL, tL], [tL], fun (x : LX × LX) => nat_Mul.f k x.1 x.2⟩), (59, ⟨[tZ, tL], [tQ], fun (x : ZX × LX) => ratio_made.f k x.1 x.2⟩)]
def fs (k : Nat) : FS := ⟨[tQ, tQ], [tQ], fun (x : RX × RX) => ratio_Add.f k x.1 x.2⟩
theorem ok : FnOk Tryz.prog 96 30 Tryz.f96.results.toList (Tryz.f96.body.getD .skip) 2 := ⟨⟨Tryz.f96, by kernel_rfl, by kernel_rfl, by kernel_rfl, rfl, by kernel_rfl⟩, by kernel_rfl, by decide⟩
theorem c (k : Nat) : Contract Tryz.prog 96 (fs k) :=
  fn_sound (ps := [tQ, tQ]) (rs := [tQ]) (pts := ptL) (fns := fns) (fgs := fgs0) (fws := fws0) (tys := tyTab) (main := fun k (x : RX × RX) => ratio_Add.f k x.1 x.2) ok mix tyOk trivial (fun k x => by kernel_rfl) (fun k => ⟨⟨ratio_Norm.c k, whole_Mul.c k, whole_Add.c k, nat_Mul.c k, ratio_made.c k, trivial⟩, trivial, trivial⟩) k
end ratio_Add

namespace ratio_Sub
def ptL : List (Pt (TD [tQ])) := []
def fns : Nat → List (FuncId × FS) := fun k => [(71, ⟨[tQ], [tQ], fun (x : RX) => ratio_Neg.f k x⟩), (96, ⟨[tQ, tQ], [tQ], fun (x : RX × RX) => ratio_Add.f k x.1 x.2⟩)]
def fs (k : Nat) : FS := ⟨[tQ, tQ], [tQ], fun (x : RX × RX) => ratio_Sub.f k x.1 x.2⟩
theorem ok : FnOk Tryz.prog 53 9 Tryz.f53.results.toList (Tryz.f53.body.getD .skip) 2 := ⟨⟨Tryz.f53, by kernel_rfl, by kernel_rfl, by kernel_rfl, rfl, by kernel_rfl⟩, by kernel_rfl, by decide⟩
theorem c (k : Nat) : Contract Tryz.prog 53 (fs k) :=
  fn_sound (ps := [tQ, tQ]) (rs := [tQ]) (pts := ptL) (fns := fns) (fgs := fgs0) (fws := fws0) (tys := tyTab) (main := fun k (x : RX × RX) => ratio_Sub.f k x.1 x.2) ok mix tyOk trivial (fun k x => by kernel_rfl) (fun k => ⟨⟨ratio_Neg.c k, ratio_Add.c k, trivial⟩, trivial, trivial⟩) k
end ratio_Sub

namespace nat_Bit
def s5 : PSig := ⟨0, [], []⟩
def ptL : List (Pt (TD [.bool])) := [⟨5, s5, fun k (x : Unit) => nat_Bit.p5 k x⟩]
def fs (k : Nat) : FS := ⟨[tL, (.int .i64)], [.bool], fun (x : LX × Int) => nat_Bit.f k x.1 x.2⟩
theorem ok : FnOk Tryz.prog 54 24 Tryz.f54.results.toList (Tryz.f54.body.getD .skip) 2 := ⟨⟨Tryz.f54, by kernel_rfl, by kernel_rfl, by kernel_rfl, rfl, by kernel_rfl⟩, by kernel_rfl, by decide⟩
theorem c (k : Nat) : Contract Tryz.prog 54 (fs k) :=
  fn_sound (ps := [tL, (.int .i64)]) (rs := [.bool]) (pts := ptL) (fns := fns0) (fgs := fgs0) (fws := fws0) (tys := tyTab) (main := fun k (x : LX × Int) => nat_Bit.f k x.1 x.2) ok mix tyOk ⟨⟨rfl, fun _ => rfl, fun k x => by kernel_rfl⟩, trivial⟩ (fun k x => by kernel_rfl) (fun _ => ⟨trivial, trivial, trivial⟩) k
end nat_Bit

namespace approx_shortest
def s0 : PSig := ⟨0, [(36, tQ, true), (36, tQ, true)], [(0, .val .flt), (2, .val (.int .i64)), (3, .val (.int .i64)), (11, .ptr 0 []), (14, .val .str), (15, .ptr 1 []), (16, .val .bool), (45, .val (.st (.pair tZ tZ))), (46, .val (.int .i64))]⟩
def s17 : PSig := ⟨0, [(36, tQ, true), (36, tQ, true), (34, tZ, true)], [(0, .val .flt), (2, .val (.int .i64)), (3, .val (.int .i64)), (11, .ptr 0 []), (14, .val .str), (15, .ptr 1 []), (16, .val .bool), (18, .ptr 2 []), (45, .val (.st (.pair tZ tZ))), (46, .val (.int .i64))]⟩
def s35 : PSig := ⟨0, [(36, tQ, true), (36, tQ, true)], [(0, .val .flt), (2, .val (.int .i64)), (3, .val (.int .i64)), (11, .ptr 0 []), (14, .val .str), (15, .ptr 1 []), (16, .val .bool), (45, .val (.st (.pair tZ tZ))), (46, .val (.int .i64))]⟩
def s33 : PSig := ⟨0, [(36, tQ, true), (36, tQ, true), (36, tQ, true)], [(0, .val .flt), (2, .val (.int .i64)), (3, .val (.int .i64)), (11, .ptr 0 []), (15, .ptr 1 []), (20, .val .str), (25, .ptr 2 []), (45, .val (.st (.pair tZ tZ))), (46, .val (.int .i64))]⟩
def ptL : List (Pt (TD [.str, .bool])) := [⟨0, s0, fun k (x : RX × RX × Nat × Int × Int × ByteArray × Bool × (ZX × ZX) × Int) => approx_shortest.p0 k x.1 x.2.1 x.2.2.1 x.2.2.2.1 x.2.2.2.2.1 x.2.2.2.2.2.1 x.2.2.2.2.2.2.1 x.2.2.2.2.2.2.2.1 x.2.2.2.2.2.2.2.2⟩, ⟨17, s17, fun k (x : RX × RX × ZX × Nat × Int × Int × ByteArray × Bool × (ZX × ZX) × Int) => approx_shortest.p17 k x.1 x.2.1 x.2.2.1 x.2.2.2.1 x.2.2.2.2.1 x.2.2.2.2.2.1 x.2.2.2.2.2.2.1 x.2.2.2.2.2.2.2.1 x.2.2.2.2.2.2.2.2.1 x.2.2.2.2.2.2.2.2.2⟩, ⟨35, s35, fun k (x : RX × RX × Nat × Int × Int × ByteArray × Bool × (ZX × ZX) × Int) => approx_shortest.p35 k x.1 x.2.1 x.2.2.1 x.2.2.2.1 x.2.2.2.2.1 x.2.2.2.2.2.1 x.2.2.2.2.2.2.1 x.2.2.2.2.2.2.2.1 x.2.2.2.2.2.2.2.2⟩, ⟨33, s33, fun k (x : RX × RX × RX × Nat × Int × Int × ByteArray × (ZX × ZX) × Int) => approx_shortest.p33 k x.1 x.2.1 x.2.2.1 x.2.2.2.1 x.2.2.2.2.1 x.2.2.2.2.2.1 x.2.2.2.2.2.2.1 x.2.2.2.2.2.2.2.1 x.2.2.2.2.2.2.2.2⟩]
def fns : Nat → List (FuncId × FS) := fun k => [(46, ⟨[(.int .i64)], [tQ], fun (x : Int) => approx_ten.f k x⟩), (48, ⟨[tQ, tQ], [tQ, (.int .i64)], fun (x : RX × RX) => ratio_Div.f k x.1 x.2⟩), (49, ⟨[tQ], [tZ], fun (x : RX) => ratio_Floor.f k x⟩), (28, ⟨[(.int .i64)], [tZ], fun (x : Int) => whole_Of.f k x⟩), (50, ⟨[tZ, tZ], [tZ], fun (x : ZX × ZX) => whole_Add.f k x.1 x.2⟩), (51, ⟨[tZ], [.str], fun (x : ZX) => whole_Text.f k x⟩), (52, ⟨[.str, (.int .i64)], [.str], fun (x : ByteArray × Int) => approx_text.f k x.1 x.2⟩), (6, ⟨[.str], [.flt, (.int .i64)], fun (x : ByteArray) => approx_Read.f k x⟩), (27, ⟨[tZ, tZ], [tQ, (.int .i64)], fun (x : ZX × ZX) => ratio_Of.f k x.1 x.2⟩), (53, ⟨[tQ, tQ], [tQ], fun (x : RX × RX) => ratio_Sub.f k x.1 x.2⟩), (32, ⟨[tQ], [tQ], fun (x : RX) => ratio_Abs.f k x⟩), (47, ⟨[tQ, tQ], [(.int .i64)], fun (x : RX × RX) => ratio_Cmp.f k x.1 x.2⟩), (54, ⟨[tL, (.int .i64)], [.bool], fun (x : LX × Int) => nat_Bit.f k x.1 x.2⟩)]
def fs (k : Nat) : FS := ⟨[.flt, tQ, (.int .i64), (.int .i64)], [.str, .bool], fun (x : Nat × RX × Int × Int) => approx_shortest.f k x.1 x.2.1 x.2.2.1 x.2.2.2⟩
theorem ok : FnOk Tryz.prog 23 101 Tryz.f23.results.toList (Tryz.f23.body.getD .skip) 4 := ⟨⟨Tryz.f23, by kernel_rfl, by kernel_rfl, by kernel_rfl, rfl, by kernel_rfl⟩, by kernel_rfl, by decide⟩
theorem c (k : Nat) : Contract Tryz.prog 23 (fs k) :=
  fn_sound (ps := [.flt, tQ, (.int .i64), (.int .i64)]) (rs := [.str, .bool]) (pts := ptL) (fns := fns) (fgs := fgs0) (fws := fws0) (tys := tyTab) (main := fun k (x : Nat × RX × Int × Int) => approx_shortest.f k x.1 x.2.1 x.2.2.1 x.2.2.2) ok mix tyOk ⟨⟨rfl, fun _ => rfl, fun k x => by kernel_rfl⟩, ⟨rfl, fun _ => rfl, fun k x => by kernel_rfl⟩, ⟨rfl, fun _ => rfl, fun k x => by kernel_rfl⟩, ⟨rfl, fun _ => rfl, fun k x => by kernel_rfl⟩, trivial⟩ (fun k x => by kernel_rfl) (fun k => ⟨⟨approx_ten.c k, ratio_Div.c k, ratio_Floor.c k, whole_Of.c k, whole_Add.c k, whole_Text.c k, approx_text.c k, approx_Read.c k, ratio_Of.c k, ratio_Sub.c k, ratio_Abs.c k, ratio_Cmp.c k, nat_Bit.c k, trivial⟩, trivial, trivial⟩) k
end approx_shortest

namespace approx_Short
def s13 : PSig := ⟨0, [(36, tQ, true)], [(0, .val .flt), (4, .ptr 0 [])]⟩
def s2 : PSig := ⟨0, [(36, tQ, true)], [(0, .val .flt), (4, .ptr 0 []), (8, .val (.int .i64)), (9, .val (.int .i64))]⟩
def ptL : List (Pt (TD [.str, (.int .i64)])) := [⟨13, s13, fun k (x : RX × Nat) => approx_Short.p13 k x.1 x.2⟩, ⟨2, s2, fun k (x : RX × Nat × Int × Int) => approx_Short.p2 k x.1 x.2.1 x.2.2.1 x.2.2.2⟩]
def fns : Nat → List (FuncId × FS) := fun k => [(10, ⟨[.flt], [tQ, (.int .i64)], fun (x : Nat) => approx_Exact.f k x⟩), (21, ⟨[.flt], [.bool], fun (x : Nat) => math_Signbit.f k x⟩), (22, ⟨[tQ], [(.int .i64)], fun (x : RX) => approx_power.f k x⟩), (23, ⟨[.flt, tQ, (.int .i64), (.int .i64)], [.str, .bool], fun (x : Nat × RX × Int × Int) => approx_shortest.f k x.1 x.2.1 x.2.2.1 x.2.2.2⟩), (8, ⟨[.flt], [.str, (.int .i64)], fun (x : Nat) => approx_Short.f k x⟩)]
def fs (k : Nat) : FS := ⟨[.flt], [.str, (.int .i64)], fun (x : Nat) => approx_Short.f k x⟩
theorem ok : FnOk Tryz.prog 8 56 Tryz.f8.results.toList (Tryz.f8.body.getD .skip) 1 := ⟨⟨Tryz.f8, by kernel_rfl, by kernel_rfl, by kernel_rfl, rfl, by kernel_rfl⟩, by kernel_rfl, by decide⟩
theorem c (k : Nat) : Contract Tryz.prog 8 (fs k) := by
  induction k using Nat.strongRecOn with
  | _ k ih =>
    exact fn_sound_rec (ps := [.flt]) (rs := [.str, (.int .i64)]) (pts := ptL) (fns := fns) (fgs := fgs0) (fws := fws0) (tys := tyTab) (main := fun k (x : Nat) => approx_Short.f k x) ok mix tyOk ⟨⟨rfl, fun _ => rfl, fun k x => by kernel_rfl⟩, ⟨rfl, fun _ => rfl, fun k x => by kernel_rfl⟩, trivial⟩ (fun _ => rfl) (fun k x => by kernel_rfl) k (fun k hk => ⟨⟨approx_Exact.c k, math_Signbit.c k, approx_power.c k, approx_shortest.c k, ih k hk, trivial⟩, trivial, trivial⟩)
end approx_Short

namespace law04_digits
def s0 : PSig := ⟨0, [], [(0, .val .str), (3, .val (.int .i64)), (4, .val (.int .i64)), (5, .val (.int .i64)), (6, .val (.int .i64))]⟩
def s13 : PSig := ⟨0, [], [(0, .val .str), (3, .val (.int .i64)), (4, .val (.int .i64)), (5, .val (.int .i64)), (6, .val (.int .i64))]⟩
def s23 : PSig := ⟨0, [], [(0, .val .str), (3, .val (.int .i64)), (5, .val (.int .i64)), (6, .val (.int .i64))]⟩
def s27 : PSig := ⟨0, [], [(3, .val (.int .i64)), (4, .val (.int .i64))]⟩
def ptL : List (Pt (TD [(.int .i64)])) := [⟨0, s0, fun k (x : ByteArray × Int × Int × Int × Int) => law04_digits.p0 k x.1 x.2.1 x.2.2.1 x.2.2.2.1 x.2.2.2.2⟩, ⟨13, s13, fun k (x : ByteArray × Int × Int × Int × Int) => law04_digits.p13 k x.1 x.2.1 x.2.2.1 x.2.2.2.1 x.2.2.2.2⟩, ⟨23, s23, fun k (x : ByteArray × Int × Int × Int) => law04_digits.p23 k x.1 x.2.1 x.2.2.1 x.2.2.2⟩, ⟨27, s27, fun k (x : Int × Int) => law04_digits.p27 k x.1 x.2⟩]
def fs (k : Nat) : FS := ⟨[.str], [(.int .i64)], fun (x : ByteArray) => law04_digits.f k x⟩
theorem ok : FnOk Tryz.prog 9 51 Tryz.f9.results.toList (Tryz.f9.body.getD .skip) 1 := ⟨⟨Tryz.f9, by kernel_rfl, by kernel_rfl, by kernel_rfl, rfl, by kernel_rfl⟩, by kernel_rfl, by decide⟩
theorem c (k : Nat) : Contract Tryz.prog 9 (fs k) :=
  fn_sound (ps := [.str]) (rs := [(.int .i64)]) (pts := ptL) (fns := fns0) (fgs := fgs0) (fws := fws0) (tys := tyTab) (main := fun k (x : ByteArray) => law04_digits.f k x) ok mix tyOk ⟨⟨rfl, fun _ => rfl, fun k x => by kernel_rfl⟩, ⟨rfl, fun _ => rfl, fun k x => by kernel_rfl⟩, ⟨rfl, fun _ => rfl, fun k x => by kernel_rfl⟩, ⟨rfl, fun _ => rfl, fun k x => by kernel_rfl⟩, trivial⟩ (fun k x => by kernel_rfl) (fun _ => ⟨trivial, trivial, trivial⟩) k
end law04_digits

namespace law04_ApproxFewest
def s9 : PSig := ⟨0, [], []⟩
def s13 : PSig := ⟨0, [], []⟩
def ptL : List (Pt (TD [.bool])) := [⟨9, s9, fun k (x : Unit) => law04_ApproxFewest.p9 k x⟩, ⟨13, s13, fun k (x : Unit) => law04_ApproxFewest.p13 k x⟩]
def fns : Nat → List (FuncId × FS) := fun k => [(6, ⟨[.str], [.flt, (.int .i64)], fun (x : ByteArray) => approx_Read.f k x⟩), (7, ⟨[.flt], [.bool], fun (x : Nat) => law04_finite.f k x⟩), (8, ⟨[.flt], [.str, (.int .i64)], fun (x : Nat) => approx_Short.f k x⟩), (9, ⟨[.str], [(.int .i64)], fun (x : ByteArray) => law04_digits.f k x⟩)]
def fs (k : Nat) : FS := ⟨[.str], [.bool], fun (x : ByteArray) => law04_ApproxFewest.f k x⟩
theorem ok : FnOk Tryz.prog 3 45 Tryz.f3.results.toList (Tryz.f3.body.getD .skip) 1 := ⟨⟨Tryz.f3, by kernel_rfl, by kernel_rfl, by kernel_rfl, rfl, by kernel_rfl⟩, by kernel_rfl, by decide⟩
theorem c (k : Nat) : Contract Tryz.prog 3 (fs k) :=
  fn_sound (ps := [.str]) (rs := [.bool]) (pts := ptL) (fns := fns) (fgs := fgs0) (fws := fws0) (tys := tyTab) (main := fun k (x : ByteArray) => law04_ApproxFewest.f k x) ok mix tyOk ⟨⟨rfl, fun _ => rfl, fun k x => by kernel_rfl⟩, ⟨rfl, fun _ => rfl, fun k x => by kernel_rfl⟩, trivial⟩ (fun k x => by kernel_rfl) (fun k => ⟨⟨approx_Read.c k, law04_finite.c k, approx_Short.c k, law04_digits.c k, trivial⟩, trivial, trivial⟩) k
end law04_ApproxFewest
end Go.Proofs.YtedocilafacliaaGreatDoor
