/- Contracts, printed by fgen.py. -/
import Derived.Test.YtlcdndoddcklfaaPlm
import Derived.Test.YtlcdndoddcklfaaProg
namespace Go.Proofs.Ytlcdndoddcklfaa
open Go.FK
theorem mix : Try.prog.follows .mixedOrders = true ∧ ArrsOk Try.prog := ⟨by kernel_rfl, arrsB_ok (by kernel_rfl)⟩
def tyTab : List (TypeId × TI) := [(3, ⟨(.int .i64), 0, 0⟩), (4, ⟨.bool, 0, 0⟩), (5, ⟨(.int .u8), 0, 0⟩), (9, ⟨.str, 0, 0⟩), (21, ⟨(.int .i32), 0, 0⟩), (22, ⟨(.int .i64), 0, 0⟩)]
theorem tyOk : tysB Try.prog tyTab = true := by kernel_rfl

namespace tokens_digit
def fws : Nat → List (FuncId × FW) := fun _ => []
def ptL : List (Pt (TD [.bool])) := []
def fns : Nat → List (FuncId × FS) := fun _ => []
def fgs : Nat → List (FuncId × FG) := fun _ => []
def fs (k : Nat) : FS := ⟨[(.int .u8)], [.bool], fun (x : Int) => tokens_digit.f k x⟩
theorem ok : FnOk Try.prog 12 9 Try.f12.results.toList (Try.f12.body.getD .skip) 1 := ⟨⟨Try.f12, by kernel_rfl, by kernel_rfl, by kernel_rfl, rfl, by kernel_rfl⟩, by kernel_rfl, by decide⟩
theorem c (k : Nat) : Contract Try.prog 12 (fs k) :=
  fn_sound (ps := [(.int .u8)]) (rs := [.bool]) (pts := ptL) (fns := fns) (fgs := fgs) (fws := fws) (tys := tyTab) (main := fun k (x : Int) => tokens_digit.f k x) ok mix tyOk trivial (fun k x => by kernel_rfl) (fun _ => ⟨trivial, trivial, trivial⟩) k
end tokens_digit

namespace tokens_letter
def fws : Nat → List (FuncId × FW) := fun _ => []
def ptL : List (Pt (TD [.bool])) := []
def fns : Nat → List (FuncId × FS) := fun _ => []
def fgs : Nat → List (FuncId × FG) := fun _ => []
def fs (k : Nat) : FS := ⟨[(.int .u8)], [.bool], fun (x : Int) => tokens_letter.f k x⟩
theorem ok : FnOk Try.prog 17 11 Try.f17.results.toList (Try.f17.body.getD .skip) 1 := ⟨⟨Try.f17, by kernel_rfl, by kernel_rfl, by kernel_rfl, rfl, by kernel_rfl⟩, by kernel_rfl, by decide⟩
theorem c (k : Nat) : Contract Try.prog 17 (fs k) :=
  fn_sound (ps := [(.int .u8)]) (rs := [.bool]) (pts := ptL) (fns := fns) (fgs := fgs) (fws := fws) (tys := tyTab) (main := fun k (x : Int) => tokens_letter.f k x) ok mix tyOk trivial (fun k x => by kernel_rfl) (fun _ => ⟨trivial, trivial, trivial⟩) k
end tokens_letter

namespace bytealg_IndexByteString
theorem c (k : Nat) : Contract Try.prog 22 ⟨[.str, (.int .u8)], [(.int .i64)], fun (x : ByteArray × Int) => bytealg_IndexByteString.f k x.1 x.2⟩ :=
  indexByteString_contract (fn := Try.f22) (by kernel_rfl) (by kernel_rfl) (by kernel_rfl) (by kernel_rfl) (by kernel_rfl) (fun _ _ => rfl)
end bytealg_IndexByteString

namespace stringslite_IndexByte
def fws : Nat → List (FuncId × FW) := fun _ => []
def ptL : List (Pt (TD [(.int .i64)])) := []
def fns : Nat → List (FuncId × FS) := fun k => [(22, ⟨[.str, (.int .u8)], [(.int .i64)], fun (x : ByteArray × Int) => bytealg_IndexByteString.f k x.1 x.2⟩)]
def fgs : Nat → List (FuncId × FG) := fun _ => []
def fs (k : Nat) : FS := ⟨[.str, (.int .u8)], [(.int .i64)], fun (x : ByteArray × Int) => stringslite_IndexByte.f k x.1 x.2⟩
theorem ok : FnOk Try.prog 21 8 Try.f21.results.toList (Try.f21.body.getD .skip) 2 := ⟨⟨Try.f21, by kernel_rfl, by kernel_rfl, by kernel_rfl, rfl, by kernel_rfl⟩, by kernel_rfl, by decide⟩
theorem c (k : Nat) : Contract Try.prog 21 (fs k) :=
  fn_sound (ps := [.str, (.int .u8)]) (rs := [(.int .i64)]) (pts := ptL) (fns := fns) (fgs := fgs) (fws := fws) (tys := tyTab) (main := fun k (x : ByteArray × Int) => stringslite_IndexByte.f k x.1 x.2) ok mix tyOk trivial (fun k x => by kernel_rfl) (fun k => ⟨⟨bytealg_IndexByteString.c k, trivial⟩, trivial, trivial⟩) k
end stringslite_IndexByte

namespace strings_IndexByte
def fws : Nat → List (FuncId × FW) := fun _ => []
def ptL : List (Pt (TD [(.int .i64)])) := []
def fns : Nat → List (FuncId × FS) := fun k => [(21, ⟨[.str, (.int .u8)], [(.int .i64)], fun (x : ByteArray × Int) => stringslite_IndexByte.f k x.1 x.2⟩)]
def fgs : Nat → List (FuncId × FG) := fun _ => []
def fs (k : Nat) : FS := ⟨[.str, (.int .u8)], [(.int .i64)], fun (x : ByteArray × Int) => strings_IndexByte.f k x.1 x.2⟩
theorem ok : FnOk Try.prog 18 8 Try.f18.results.toList (Try.f18.body.getD .skip) 2 := ⟨⟨Try.f18, by kernel_rfl, by kernel_rfl, by kernel_rfl, rfl, by kernel_rfl⟩, by kernel_rfl, by decide⟩
theorem c (k : Nat) : Contract Try.prog 18 (fs k) :=
  fn_sound (ps := [.str, (.int .u8)]) (rs := [(.int .i64)]) (pts := ptL) (fns := fns) (fgs := fgs) (fws := fws) (tys := tyTab) (main := fun k (x : ByteArray × Int) => strings_IndexByte.f k x.1 x.2) ok mix tyOk trivial (fun k x => by kernel_rfl) (fun k => ⟨⟨stringslite_IndexByte.c k, trivial⟩, trivial, trivial⟩) k
end strings_IndexByte

namespace tokens_sign
def fws : Nat → List (FuncId × FW) := fun _ => []
def ptL : List (Pt (TD [.bool])) := []
def fns : Nat → List (FuncId × FS) := fun k => [(17, ⟨[(.int .u8)], [.bool], fun (x : Int) => tokens_letter.f k x⟩), (12, ⟨[(.int .u8)], [.bool], fun (x : Int) => tokens_digit.f k x⟩), (18, ⟨[.str, (.int .u8)], [(.int .i64)], fun (x : ByteArray × Int) => strings_IndexByte.f k x.1 x.2⟩)]
def fgs : Nat → List (FuncId × FG) := fun _ => []
def fs (k : Nat) : FS := ⟨[(.int .u8)], [.bool], fun (x : Int) => tokens_sign.f k x⟩
theorem ok : FnOk Try.prog 13 14 Try.f13.results.toList (Try.f13.body.getD .skip) 1 := ⟨⟨Try.f13, by kernel_rfl, by kernel_rfl, by kernel_rfl, rfl, by kernel_rfl⟩, by kernel_rfl, by decide⟩
theorem c (k : Nat) : Contract Try.prog 13 (fs k) :=
  fn_sound (ps := [(.int .u8)]) (rs := [.bool]) (pts := ptL) (fns := fns) (fgs := fgs) (fws := fws) (tys := tyTab) (main := fun k (x : Int) => tokens_sign.f k x) ok mix tyOk trivial (fun k x => by kernel_rfl) (fun k => ⟨⟨tokens_letter.c k, tokens_digit.c k, strings_IndexByte.c k, trivial⟩, trivial, trivial⟩) k
end tokens_sign

namespace tokens_Plain
def s5 : PSig := ⟨0, [], []⟩
def s0 : PSig := ⟨0, [], [(0, .val .str), (12, .val (.int .i64)), (13, .val (.int .i64))]⟩
def fws : Nat → List (FuncId × FW) := fun _ => []
def ptL : List (Pt (TD [.bool])) := [⟨5, s5, fun k (x : Unit) => tokens_Plain.p5 k x⟩, ⟨0, s0, fun k (x : ByteArray × Int × Int) => tokens_Plain.p0 k x.1 x.2.1 x.2.2⟩]
def fns : Nat → List (FuncId × FS) := fun k => [(12, ⟨[(.int .u8)], [.bool], fun (x : Int) => tokens_digit.f k x⟩), (13, ⟨[(.int .u8)], [.bool], fun (x : Int) => tokens_sign.f k x⟩)]
def fgs : Nat → List (FuncId × FG) := fun _ => []
def fs (k : Nat) : FS := ⟨[.str], [.bool], fun (x : ByteArray) => tokens_Plain.f k x⟩
theorem ok : FnOk Try.prog 6 22 Try.f6.results.toList (Try.f6.body.getD .skip) 1 := ⟨⟨Try.f6, by kernel_rfl, by kernel_rfl, by kernel_rfl, rfl, by kernel_rfl⟩, by kernel_rfl, by decide⟩
theorem c (k : Nat) : Contract Try.prog 6 (fs k) :=
  fn_sound (ps := [.str]) (rs := [.bool]) (pts := ptL) (fns := fns) (fgs := fgs) (fws := fws) (tys := tyTab) (main := fun k (x : ByteArray) => tokens_Plain.f k x) ok mix tyOk ⟨⟨rfl, fun _ => rfl, fun k x => by kernel_rfl⟩, ⟨rfl, fun _ => rfl, fun k x => by kernel_rfl⟩, trivial⟩ (fun k x => by kernel_rfl) (fun k => ⟨⟨tokens_digit.c k, tokens_sign.c k, trivial⟩, trivial, trivial⟩) k
end tokens_Plain

namespace tokens_quotable
def fws : Nat → List (FuncId × FW) := fun _ => []
def ptL : List (Pt (TD [.bool])) := []
def fns : Nat → List (FuncId × FS) := fun _ => []
def fgs : Nat → List (FuncId × FG) := fun _ => []
def fs (k : Nat) : FS := ⟨[(.int .i32)], [.bool], fun (x : Int) => tokens_quotable.f k x⟩
theorem ok : FnOk Try.prog 10 25 Try.f10.results.toList (Try.f10.body.getD .skip) 1 := ⟨⟨Try.f10, by kernel_rfl, by kernel_rfl, by kernel_rfl, rfl, by kernel_rfl⟩, by kernel_rfl, by decide⟩
theorem c (k : Nat) : Contract Try.prog 10 (fs k) :=
  fn_sound (ps := [(.int .i32)]) (rs := [.bool]) (pts := ptL) (fns := fns) (fgs := fgs) (fws := fws) (tys := tyTab) (main := fun k (x : Int) => tokens_quotable.f k x) ok mix tyOk trivial (fun k x => by kernel_rfl) (fun _ => ⟨trivial, trivial, trivial⟩) k
end tokens_quotable

namespace tokens_Symbol
theorem c (k : Nat) : Contract Try.prog 4 ⟨[.str], [.str, .int .i64], fun (x : ByteArray) => tokens_Symbol.f k x⟩ := symbol_contract (tokens_Plain.c k)
end tokens_Symbol

namespace ref12_letter
def fws : Nat → List (FuncId × FW) := fun _ => []
def ptL : List (Pt (TD [.bool])) := []
def fns : Nat → List (FuncId × FS) := fun _ => []
def fgs : Nat → List (FuncId × FG) := fun _ => []
def fs (k : Nat) : FS := ⟨[(.int .u8)], [.bool], fun (x : Int) => ref12_letter.f k x⟩
theorem ok : FnOk Try.prog 19 17 Try.f19.results.toList (Try.f19.body.getD .skip) 1 := ⟨⟨Try.f19, by kernel_rfl, by kernel_rfl, by kernel_rfl, rfl, by kernel_rfl⟩, by kernel_rfl, by decide⟩
theorem c (k : Nat) : Contract Try.prog 19 (fs k) :=
  fn_sound (ps := [(.int .u8)]) (rs := [.bool]) (pts := ptL) (fns := fns) (fgs := fgs) (fws := fws) (tys := tyTab) (main := fun k (x : Int) => ref12_letter.f k x) ok mix tyOk trivial (fun k x => by kernel_rfl) (fun _ => ⟨trivial, trivial, trivial⟩) k
end ref12_letter

namespace ref12_digit
def fws : Nat → List (FuncId × FW) := fun _ => []
def ptL : List (Pt (TD [.bool])) := []
def fns : Nat → List (FuncId × FS) := fun _ => []
def fgs : Nat → List (FuncId × FG) := fun _ => []
def fs (k : Nat) : FS := ⟨[(.int .u8)], [.bool], fun (x : Int) => ref12_digit.f k x⟩
theorem ok : FnOk Try.prog 15 9 Try.f15.results.toList (Try.f15.body.getD .skip) 1 := ⟨⟨Try.f15, by kernel_rfl, by kernel_rfl, by kernel_rfl, rfl, by kernel_rfl⟩, by kernel_rfl, by decide⟩
theorem c (k : Nat) : Contract Try.prog 15 (fs k) :=
  fn_sound (ps := [(.int .u8)]) (rs := [.bool]) (pts := ptL) (fns := fns) (fgs := fgs) (fws := fws) (tys := tyTab) (main := fun k (x : Int) => ref12_digit.f k x) ok mix tyOk trivial (fun k x => by kernel_rfl) (fun _ => ⟨trivial, trivial, trivial⟩) k
end ref12_digit

namespace ref12_within
def s0 : PSig := ⟨0, [], [(0, .val (.int .u8)), (1, .val .str), (5, .val (.int .i64))]⟩
def fws : Nat → List (FuncId × FW) := fun _ => []
def ptL : List (Pt (TD [.bool])) := [⟨0, s0, fun k (x : Int × ByteArray × Int) => ref12_within.p0 k x.1 x.2.1 x.2.2⟩]
def fns : Nat → List (FuncId × FS) := fun _ => []
def fgs : Nat → List (FuncId × FG) := fun _ => []
def fs (k : Nat) : FS := ⟨[(.int .u8), .str], [.bool], fun (x : Int × ByteArray) => ref12_within.f k x.1 x.2⟩
theorem ok : FnOk Try.prog 20 17 Try.f20.results.toList (Try.f20.body.getD .skip) 2 := ⟨⟨Try.f20, by kernel_rfl, by kernel_rfl, by kernel_rfl, rfl, by kernel_rfl⟩, by kernel_rfl, by decide⟩
theorem c (k : Nat) : Contract Try.prog 20 (fs k) :=
  fn_sound (ps := [(.int .u8), .str]) (rs := [.bool]) (pts := ptL) (fns := fns) (fgs := fgs) (fws := fws) (tys := tyTab) (main := fun k (x : Int × ByteArray) => ref12_within.f k x.1 x.2) ok mix tyOk ⟨⟨rfl, fun _ => rfl, fun k x => by kernel_rfl⟩, trivial⟩ (fun k x => by kernel_rfl) (fun _ => ⟨trivial, trivial, trivial⟩) k
end ref12_within

namespace ref12_symbolByte
def fws : Nat → List (FuncId × FW) := fun _ => []
def ptL : List (Pt (TD [.bool])) := []
def fns : Nat → List (FuncId × FS) := fun k => [(19, ⟨[(.int .u8)], [.bool], fun (x : Int) => ref12_letter.f k x⟩), (15, ⟨[(.int .u8)], [.bool], fun (x : Int) => ref12_digit.f k x⟩), (20, ⟨[(.int .u8), .str], [.bool], fun (x : Int × ByteArray) => ref12_within.f k x.1 x.2⟩)]
def fgs : Nat → List (FuncId × FG) := fun _ => []
def fs (k : Nat) : FS := ⟨[(.int .u8)], [.bool], fun (x : Int) => ref12_symbolByte.f k x⟩
theorem ok : FnOk Try.prog 14 13 Try.f14.results.toList (Try.f14.body.getD .skip) 1 := ⟨⟨Try.f14, by kernel_rfl, by kernel_rfl, by kernel_rfl, rfl, by kernel_rfl⟩, by kernel_rfl, by decide⟩
theorem c (k : Nat) : Contract Try.prog 14 (fs k) :=
  fn_sound (ps := [(.int .u8)]) (rs := [.bool]) (pts := ptL) (fns := fns) (fgs := fgs) (fws := fws) (tys := tyTab) (main := fun k (x : Int) => ref12_symbolByte.f k x) ok mix tyOk trivial (fun k x => by kernel_rfl) (fun k => ⟨⟨ref12_letter.c k, ref12_digit.c k, ref12_within.c k, trivial⟩, trivial, trivial⟩) k
end ref12_symbolByte

namespace ref12_Plain
def s0 : PSig := ⟨0, [], [(0, .val .str), (3, .val (.int .i64))]⟩
def fws : Nat → List (FuncId × FW) := fun _ => []
def ptL : List (Pt (TD [.bool])) := [⟨0, s0, fun k (x : ByteArray × Int) => ref12_Plain.p0 k x.1 x.2⟩]
def fns : Nat → List (FuncId × FS) := fun k => [(14, ⟨[(.int .u8)], [.bool], fun (x : Int) => ref12_symbolByte.f k x⟩), (15, ⟨[(.int .u8)], [.bool], fun (x : Int) => ref12_digit.f k x⟩)]
def fgs : Nat → List (FuncId × FG) := fun _ => []
def fs (k : Nat) : FS := ⟨[.str], [.bool], fun (x : ByteArray) => ref12_Plain.f k x⟩
theorem ok : FnOk Try.prog 7 24 Try.f7.results.toList (Try.f7.body.getD .skip) 1 := ⟨⟨Try.f7, by kernel_rfl, by kernel_rfl, by kernel_rfl, rfl, by kernel_rfl⟩, by kernel_rfl, by decide⟩
theorem c (k : Nat) : Contract Try.prog 7 (fs k) :=
  fn_sound (ps := [.str]) (rs := [.bool]) (pts := ptL) (fns := fns) (fgs := fgs) (fws := fws) (tys := tyTab) (main := fun k (x : ByteArray) => ref12_Plain.f k x) ok mix tyOk ⟨⟨rfl, fun _ => rfl, fun k x => by kernel_rfl⟩, trivial⟩ (fun k x => by kernel_rfl) (fun k => ⟨⟨ref12_symbolByte.c k, ref12_digit.c k, trivial⟩, trivial, trivial⟩) k
end ref12_Plain

namespace ref12_blank
def fws : Nat → List (FuncId × FW) := fun _ => []
def ptL : List (Pt (TD [.bool])) := []
def fns : Nat → List (FuncId × FS) := fun _ => []
def fgs : Nat → List (FuncId × FG) := fun _ => []
def fs (k : Nat) : FS := ⟨[(.int .u8)], [.bool], fun (x : Int) => ref12_blank.f k x⟩
theorem ok : FnOk Try.prog 16 17 Try.f16.results.toList (Try.f16.body.getD .skip) 1 := ⟨⟨Try.f16, by kernel_rfl, by kernel_rfl, by kernel_rfl, rfl, by kernel_rfl⟩, by kernel_rfl, by decide⟩
theorem c (k : Nat) : Contract Try.prog 16 (fs k) :=
  fn_sound (ps := [(.int .u8)]) (rs := [.bool]) (pts := ptL) (fns := fns) (fgs := fgs) (fws := fws) (tys := tyTab) (main := fun k (x : Int) => ref12_blank.f k x) ok mix tyOk trivial (fun k x => by kernel_rfl) (fun _ => ⟨trivial, trivial, trivial⟩) k
end ref12_blank

namespace ref12_quotable
def fws : Nat → List (FuncId × FW) := fun _ => []
def ptL : List (Pt (TD [.bool])) := []
def fns : Nat → List (FuncId × FS) := fun k => [(16, ⟨[(.int .u8)], [.bool], fun (x : Int) => ref12_blank.f k x⟩)]
def fgs : Nat → List (FuncId × FG) := fun _ => []
def fs (k : Nat) : FS := ⟨[(.int .u8)], [.bool], fun (x : Int) => ref12_quotable.f k x⟩
theorem ok : FnOk Try.prog 11 17 Try.f11.results.toList (Try.f11.body.getD .skip) 1 := ⟨⟨Try.f11, by kernel_rfl, by kernel_rfl, by kernel_rfl, rfl, by kernel_rfl⟩, by kernel_rfl, by decide⟩
theorem c (k : Nat) : Contract Try.prog 11 (fs k) :=
  fn_sound (ps := [(.int .u8)]) (rs := [.bool]) (pts := ptL) (fns := fns) (fgs := fgs) (fws := fws) (tys := tyTab) (main := fun k (x : Int) => ref12_quotable.f k x) ok mix tyOk trivial (fun k x => by kernel_rfl) (fun k => ⟨⟨ref12_blank.c k, trivial⟩, trivial, trivial⟩) k
end ref12_quotable

namespace ref12_Symbol
def s0 : PSig := ⟨0, [], [(0, .val .str), (4, .val (.int .i64))]⟩
def s17 : PSig := ⟨0, [], []⟩
def fws : Nat → List (FuncId × FW) := fun _ => []
def ptL : List (Pt (TD [.str, (.int .i64)])) := [⟨0, s0, fun k (x : ByteArray × Int) => ref12_Symbol.p0 k x.1 x.2⟩, ⟨17, s17, fun k (x : Unit) => ref12_Symbol.p17 k x⟩]
def fns : Nat → List (FuncId × FS) := fun k => [(7, ⟨[.str], [.bool], fun (x : ByteArray) => ref12_Plain.f k x⟩), (11, ⟨[(.int .u8)], [.bool], fun (x : Int) => ref12_quotable.f k x⟩)]
def fgs : Nat → List (FuncId × FG) := fun _ => []
def fs (k : Nat) : FS := ⟨[.str], [.str, (.int .i64)], fun (x : ByteArray) => ref12_Symbol.f k x⟩
theorem ok : FnOk Try.prog 5 32 Try.f5.results.toList (Try.f5.body.getD .skip) 1 := ⟨⟨Try.f5, by kernel_rfl, by kernel_rfl, by kernel_rfl, rfl, by kernel_rfl⟩, by kernel_rfl, by decide⟩
theorem c (k : Nat) : Contract Try.prog 5 (fs k) :=
  fn_sound (ps := [.str]) (rs := [.str, (.int .i64)]) (pts := ptL) (fns := fns) (fgs := fgs) (fws := fws) (tys := tyTab) (main := fun k (x : ByteArray) => ref12_Symbol.f k x) ok mix tyOk ⟨⟨rfl, fun _ => rfl, fun k x => by kernel_rfl⟩, ⟨rfl, fun _ => rfl, fun k x => by kernel_rfl⟩, trivial⟩ (fun k x => by kernel_rfl) (fun k => ⟨⟨ref12_Plain.c k, ref12_quotable.c k, trivial⟩, trivial, trivial⟩) k
end ref12_Symbol

namespace tokens_Reserved
def s31 : PSig := ⟨0, [], []⟩
def s33 : PSig := ⟨0, [], []⟩
def fws : Nat → List (FuncId × FW) := fun _ => []
def ptL : List (Pt (TD [.bool])) := [⟨31, s31, fun k (x : Unit) => tokens_Reserved.p31 k x⟩, ⟨33, s33, fun k (x : Unit) => tokens_Reserved.p33 k x⟩]
def fns : Nat → List (FuncId × FS) := fun _ => []
def fgs : Nat → List (FuncId × FG) := fun _ => []
def fs (k : Nat) : FS := ⟨[.str], [.bool], fun (x : ByteArray) => tokens_Reserved.f k x⟩
theorem ok : FnOk Try.prog 8 18 Try.f8.results.toList (Try.f8.body.getD .skip) 1 := ⟨⟨Try.f8, by kernel_rfl, by kernel_rfl, by kernel_rfl, rfl, by kernel_rfl⟩, by kernel_rfl, by decide⟩
theorem c (k : Nat) : Contract Try.prog 8 (fs k) :=
  fn_sound (ps := [.str]) (rs := [.bool]) (pts := ptL) (fns := fns) (fgs := fgs) (fws := fws) (tys := tyTab) (main := fun k (x : ByteArray) => tokens_Reserved.f k x) ok mix tyOk ⟨⟨rfl, fun _ => rfl, fun k x => by kernel_rfl⟩, ⟨rfl, fun _ => rfl, fun k x => by kernel_rfl⟩, trivial⟩ (fun k x => by kernel_rfl) (fun _ => ⟨trivial, trivial, trivial⟩) k
end tokens_Reserved

namespace ref12_Reserved
def s31 : PSig := ⟨0, [], []⟩
def s33 : PSig := ⟨0, [], []⟩
def fws : Nat → List (FuncId × FW) := fun _ => []
def ptL : List (Pt (TD [.bool])) := [⟨31, s31, fun k (x : Unit) => ref12_Reserved.p31 k x⟩, ⟨33, s33, fun k (x : Unit) => ref12_Reserved.p33 k x⟩]
def fns : Nat → List (FuncId × FS) := fun _ => []
def fgs : Nat → List (FuncId × FG) := fun _ => []
def fs (k : Nat) : FS := ⟨[.str], [.bool], fun (x : ByteArray) => ref12_Reserved.f k x⟩
theorem ok : FnOk Try.prog 9 18 Try.f9.results.toList (Try.f9.body.getD .skip) 1 := ⟨⟨Try.f9, by kernel_rfl, by kernel_rfl, by kernel_rfl, rfl, by kernel_rfl⟩, by kernel_rfl, by decide⟩
theorem c (k : Nat) : Contract Try.prog 9 (fs k) :=
  fn_sound (ps := [.str]) (rs := [.bool]) (pts := ptL) (fns := fns) (fgs := fgs) (fws := fws) (tys := tyTab) (main := fun k (x : ByteArray) => ref12_Reserved.f k x) ok mix tyOk ⟨⟨rfl, fun _ => rfl, fun k x => by kernel_rfl⟩, ⟨rfl, fun _ => rfl, fun k x => by kernel_rfl⟩, trivial⟩ (fun k x => by kernel_rfl) (fun _ => ⟨trivial, trivial, trivial⟩) k
end ref12_Reserved

namespace law12_TokensNames
def fws : Nat → List (FuncId × FW) := fun _ => []
def ptL : List (Pt (TD [.bool])) := []
def fns : Nat → List (FuncId × FS) := fun k => [(4, ⟨[.str], [.str, (.int .i64)], fun (x : ByteArray) => tokens_Symbol.f k x⟩), (5, ⟨[.str], [.str, (.int .i64)], fun (x : ByteArray) => ref12_Symbol.f k x⟩), (6, ⟨[.str], [.bool], fun (x : ByteArray) => tokens_Plain.f k x⟩), (7, ⟨[.str], [.bool], fun (x : ByteArray) => ref12_Plain.f k x⟩), (8, ⟨[.str], [.bool], fun (x : ByteArray) => tokens_Reserved.f k x⟩), (9, ⟨[.str], [.bool], fun (x : ByteArray) => ref12_Reserved.f k x⟩)]
def fgs : Nat → List (FuncId × FG) := fun _ => []
def fs (k : Nat) : FS := ⟨[.str], [.bool], fun (x : ByteArray) => law12_TokensNames.f k x⟩
theorem ok : FnOk Try.prog 3 39 Try.f3.results.toList (Try.f3.body.getD .skip) 1 := ⟨⟨Try.f3, by kernel_rfl, by kernel_rfl, by kernel_rfl, rfl, by kernel_rfl⟩, by kernel_rfl, by decide⟩
theorem c (k : Nat) : Contract Try.prog 3 (fs k) :=
  fn_sound (ps := [.str]) (rs := [.bool]) (pts := ptL) (fns := fns) (fgs := fgs) (fws := fws) (tys := tyTab) (main := fun k (x : ByteArray) => law12_TokensNames.f k x) ok mix tyOk trivial (fun k x => by kernel_rfl) (fun k => ⟨⟨tokens_Symbol.c k, ref12_Symbol.c k, tokens_Plain.c k, ref12_Plain.c k, tokens_Reserved.c k, ref12_Reserved.c k, trivial⟩, trivial, trivial⟩) k
end law12_TokensNames
end Go.Proofs.Ytlcdndoddcklfaa
