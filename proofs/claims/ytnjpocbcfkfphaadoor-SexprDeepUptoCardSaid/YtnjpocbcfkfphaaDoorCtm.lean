/- Contracts, printed by fgen.py. -/
import Derived.Test.YtnjpocbcfkfphaaDoorPlm
import Derived.Test.YtnjpocbcfkfphaaDoorProg
import Derived.Test.YtnjpocbcfkfphaaDoorRam
import Derived.Test.YtnjpocbcfkfphaaDoorF7
namespace Go.Proofs.YtnjpocbcfkfphaaDoor
open Go.FK
abbrev tSc : Ty := .st (.pair (.int .i64) (.pair .str (.pair .bool (.pair tokT (.int .i64)))))
abbrev tSE : Ty := .st (.pair (.int .i64) (.pair (.int .i64) (.pair .str (.pair (.int .i64) (.pair (.int .i64) (.int .i64))))))
abbrev tR5 : Ty := .st (.pair (.int .i64) (.pair (.int .i64) (.pair .str (.pair .bool (.int .i64)))))
abbrev tBt : Ty := .st (.pair (.list nodeT) (.pair (.list nodeT) (.pair (.int .i64) (.int .i64))))
theorem mix : Tryd.prog.follows .mixedOrders = true ∧ ArrsOk Tryd.prog := ⟨by kernel_rfl, arrsB_ok (by kernel_rfl)⟩
def tyTab : List (TypeId × TI) := [(3, ⟨(.int .i64), 0, 0⟩), (4, ⟨.bool, 0, 0⟩), (5, ⟨(.int .u8), 0, 0⟩), (9, ⟨.str, 0, 0⟩), (21, ⟨(.int .i32), 0, 0⟩), (22, ⟨(.list nodeT), 34, 80⟩), (23, ⟨(.int .i64), 0, 0⟩), (29, ⟨(.int .u16), 0, 0⟩), (32, ⟨tokT, 0, 0⟩), (34, ⟨nodeT, 0, 0⟩), (45, ⟨tBt, 0, 0⟩), (51, ⟨(.list (.int .u8)), 5, 1⟩), (65, ⟨(.list tokT), 32, 56⟩), (80, ⟨tSc, 0, 0⟩), (87, ⟨tSE, 0, 0⟩), (99, ⟨tR5, 0, 0⟩)]
theorem tyOk : tysB Tryd.prog tyTab = true := by kernel_rfl

abbrev tL : Ty := .list (.int .u32)
abbrev tZ : Ty := .st (.pair .bool (.list (.int .u32)))
abbrev tQ : Ty := .st (.pair (.st (.pair .bool (.list (.int .u32)))) (.list (.int .u32)))
def fws0 : Nat → List (FuncId × FW) := fun _ => []
def fns0 : Nat → List (FuncId × FS) := fun _ => []
def fgs0 : Nat → List (FuncId × FG) := fun _ => []
abbrev FnO (P : Program) (f : FuncId) (n : Nat) (fn : Func) (np : Nat) : Prop := FnOk P f n fn.results.toList (fn.body.getD .skip) np
theorem okF {P : Program} {f : FuncId} {n np : Nat} (fn : Func) (h : P.funcs[f]? = some fn) (hb : (fn.body.isSome && (fn.ntmps == n && (!(fn.name == "runtime.NumGoroutine") && (Go.FK.distinct (ptsOf 0 (fn.body.getD .skip)) && Nat.ble np n)))) = true) : FnO P f n fn np := by
  simp only [Bool.and_eq_true, Bool.not_eq_true', beq_iff_eq, Nat.ble_eq] at hb
  obtain ⟨h1, h2, h3, h4, h5⟩ := hb
  refine ⟨⟨fn, h, ?_, h2, rfl, h3⟩, h4, h5⟩
  cases hc : fn.body with
  | none => rw [hc] at h1; cases h1
  | some c => rfl
theorem fnS (ps rs : List Ty) (pts : List (Pt (TD rs))) (fns : Nat → List (FuncId × FS)) (fgs : Nat → List (FuncId × FG)) (fws : Nat → List (FuncId × FW)) (main : Nat → TD ps → Option (TD rs)) {f : FuncId} {n : Nat} {rv : List ResultVar} {c : Code} (hf : FnOk Tryd.prog f n rv c ps.length) (hpt : PtsOk (mkE tyTab fns fgs fws pts) 0 n (endK (lookT tyTab) rv rs) c pts) (hmain : ∀ k x, fnK (mkE tyTab fns fgs fws pts k) n rv c (encT ps x) = main k x) (hall : ∀ k, AllK Tryd.prog (fns k) (fgs k) (fws k)) (k : Nat) : Contract Tryd.prog f ⟨ps, rs, main k⟩ := fn_sound hf mix tyOk hpt hmain hall k

namespace tokens_begin
def ptL : List (Pt (TD [tokT])) := []
def fs (k : Nat) : FS := ⟨[], [tokT], fun (x : Unit) => tokens_begin.f k x⟩
theorem ok : FnO Tryd.prog 35 2 Tryd.f35 0 := okF _ (by kernel_rfl) (by kernel_rfl)
theorem c (k : Nat) : Contract Tryd.prog 35 (fs k) :=
  fnS [] [tokT] ptL fns0 fgs0 fws0 (fun k (x : Unit) => tokens_begin.f k x) ok trivial (fun k x => by kernel_rfl) (fun _ => ⟨trivial, trivial, trivial⟩) k
end tokens_begin

namespace tokens_New
def ptL : List (Pt (TD [(.list tSc)])) := []
def fns : Nat → List (FuncId × FS) := fun k => [(35, tokens_begin.fs k)]
def fs (k : Nat) : FS := ⟨[], [(.list tSc)], fun (x : Unit) => tokens_New.f k x⟩
theorem ok : FnO Tryd.prog 27 4 Tryd.f27 0 := okF _ (by kernel_rfl) (by kernel_rfl)
def fw (k : Nat) : FW := ⟨[], 80, tSc, true, fun (x : Unit) => tokens_New.f k x⟩
def ptW : List (Pt (List (Ty.D tSc))) := []
theorem cw (k : Nat) : ContractW Tryd.prog 27 (fw k) :=
  fn_soundW (ps := []) (e := 80) (t := tSc) (bx := true) (pts := ptW) (fns := fns) (fgs := fgs0) (fws := fws0) (tys := tyTab) (main := fun k (x : Unit) => tokens_New.f k x) ok mix tyOk trivial (fun k x => by kernel_rfl) (fun k => ⟨⟨tokens_begin.c k, trivial⟩, trivial, trivial⟩) k
end tokens_New

namespace tokens_Scanner_answers
def s5 : PSig := ⟨1, [(80, tSc, true)], []⟩
def ptL : List (Pt (TD ([.obj 80 tSc].flatMap PK.outs ++ [(.int .i64), .bool]))) := [⟨5, s5, fun k (x : SCD) => tokens_Scanner_answers.p5 k x⟩]
def fg (k : Nat) : FG := ⟨[.obj 80 tSc], [(.int .i64), .bool], none, fun (x : SCD) => tokens_Scanner_answers.f k x⟩
theorem ok : FnO Tryd.prog 38 31 Tryd.f38 1 := okF _ (by kernel_rfl) (by kernel_rfl)
theorem c (k : Nat) : ContractG Tryd.prog 38 (fg k) :=
  fn_soundG (ps := [.obj 80 tSc]) (rs := [(.int .i64), .bool]) (pts := ptL) (fns := fns0) (fgs := fgs0) (fws := fws0) (tys := tyTab) (main := fun k (x : SCD) => tokens_Scanner_answers.f k x) ok rfl mix tyOk ⟨⟨rfl, fun _ => rfl, fun k x => by kernel_rfl⟩, trivial⟩ (fun k x => by kernel_rfl) (fun _ => ⟨trivial, trivial, trivial⟩) k
end tokens_Scanner_answers

namespace tokens_blank
def ptL : List (Pt (TD [.bool])) := []
def fs (k : Nat) : FS := ⟨[(.int .u8)], [.bool], fun (x : Int) => tokens_blank.f k x⟩
theorem ok : FnO Tryd.prog 72 17 Tryd.f72 1 := okF _ (by kernel_rfl) (by kernel_rfl)
theorem c (k : Nat) : Contract Tryd.prog 72 (fs k) :=
  fnS [(.int .u8)] [.bool] ptL fns0 fgs0 fws0 (fun k (x : Int) => tokens_blank.f k x) ok trivial (fun k x => by kernel_rfl) (fun _ => ⟨trivial, trivial, trivial⟩) k
end tokens_blank

namespace tokens_Scanner_pass
def s0 : PSig := ⟨1, [(80, tSc, true)], [(0, .ptr 0 []), (1, .val (.int .i64)), (5, .val (.int .i64)), (6, .val (.int .i64))]⟩
def s15 : PSig := ⟨1, [(80, tSc, true)], [(0, .ptr 0 []), (1, .val (.int .i64)), (5, .val (.int .i64)), (6, .val (.int .i64))]⟩
def ptL : List (Pt (TD ([.obj 80 tSc, .val (.int .i64)].flatMap PK.outs ++ []))) := [⟨0, s0, fun k (x : SCD × Int × Int × Int) => tokens_Scanner_pass.p0 k x.1 x.2.1 x.2.2.1 x.2.2.2⟩, ⟨15, s15, fun k (x : SCD × Int × Int × Int) => tokens_Scanner_pass.p15 k x.1 x.2.1 x.2.2.1 x.2.2.2⟩]
def fg (k : Nat) : FG := ⟨[.obj 80 tSc, .val (.int .i64)], [], none, fun (x : SCD × Int) => tokens_Scanner_pass.f k x.1 x.2⟩
theorem ok : FnO Tryd.prog 54 67 Tryd.f54 2 := okF _ (by kernel_rfl) (by kernel_rfl)
theorem c (k : Nat) : ContractG Tryd.prog 54 (fg k) :=
  fn_soundG (ps := [.obj 80 tSc, .val (.int .i64)]) (rs := []) (pts := ptL) (fns := fns0) (fgs := fgs0) (fws := fws0) (tys := tyTab) (main := fun k (x : SCD × Int) => tokens_Scanner_pass.f k x.1 x.2) ok rfl mix tyOk ⟨⟨rfl, fun _ => rfl, fun k x => by kernel_rfl⟩, ⟨rfl, fun _ => rfl, fun k x => by kernel_rfl⟩, trivial⟩ (fun k x => by kernel_rfl) (fun _ => ⟨trivial, trivial, trivial⟩) k
end tokens_Scanner_pass

namespace tokens_Scanner_skip
def s0 : PSig := ⟨1, [(80, tSc, true)], [(0, .ptr 0 [])]⟩
def s17 : PSig := ⟨1, [(80, tSc, true)], [(0, .ptr 0 [])]⟩
def s7 : PSig := ⟨1, [(80, tSc, true)], [(0, .ptr 0 []), (2, .val (.int .u8))]⟩
def ptL : List (Pt (TD ([.obj 80 tSc].flatMap PK.outs ++ []))) := [⟨0, s0, fun k (x : SCD) => tokens_Scanner_skip.p0 k x⟩, ⟨17, s17, fun k (x : SCD) => tokens_Scanner_skip.p17 k x⟩, ⟨7, s7, fun k (x : SCD × Int) => tokens_Scanner_skip.p7 k x.1 x.2⟩]
def fns : Nat → List (FuncId × FS) := fun k => [(72, tokens_blank.fs k)]
def fgs : Nat → List (FuncId × FG) := fun k => [(54, ⟨[.obj 80 tSc, .val (.int .i64)], [], none, fun (x : SCD × Int) => tokens_Scanner_pass.f k x.1 x.2⟩)]
def fg (k : Nat) : FG := ⟨[.obj 80 tSc], [], none, fun (x : SCD) => tokens_Scanner_skip.f k x⟩
theorem ok : FnO Tryd.prog 52 46 Tryd.f52 1 := okF _ (by kernel_rfl) (by kernel_rfl)
theorem c (k : Nat) : ContractG Tryd.prog 52 (fg k) :=
  fn_soundG (ps := [.obj 80 tSc]) (rs := []) (pts := ptL) (fns := fns) (fgs := fgs) (fws := fws0) (tys := tyTab) (main := fun k (x : SCD) => tokens_Scanner_skip.f k x) ok rfl mix tyOk ⟨⟨rfl, fun _ => rfl, fun k x => by kernel_rfl⟩, ⟨rfl, fun _ => rfl, fun k x => by kernel_rfl⟩, ⟨rfl, fun _ => rfl, fun k x => by kernel_rfl⟩, trivial⟩ (fun k x => by kernel_rfl) (fun k => ⟨⟨tokens_blank.c k, trivial⟩, ⟨tokens_Scanner_pass.c k, trivial⟩, trivial⟩) k
end tokens_Scanner_skip

namespace tokens_quotable
def ptL : List (Pt (TD [.bool])) := []
def fs (k : Nat) : FS := ⟨[(.int .i32)], [.bool], fun (x : Int) => tokens_quotable.f k x⟩
theorem ok : FnO Tryd.prog 45 25 Tryd.f45 1 := okF _ (by kernel_rfl) (by kernel_rfl)
theorem c (k : Nat) : Contract Tryd.prog 45 (fs k) :=
  fnS [(.int .i32)] [.bool] ptL fns0 fgs0 fws0 (fun k (x : Int) => tokens_quotable.f k x) ok trivial (fun k x => by kernel_rfl) (fun _ => ⟨trivial, trivial, trivial⟩) k
end tokens_quotable

namespace tokens_bad
def ptL : List (Pt (TD [tR5])) := []
def fs (k : Nat) : FS := ⟨[(.int .i64)], [tR5], fun (x : Int) => tokens_bad.f k x⟩
theorem ok : FnO Tryd.prog 78 5 Tryd.f78 1 := okF _ (by kernel_rfl) (by kernel_rfl)
theorem c (k : Nat) : Contract Tryd.prog 78 (fs k) :=
  fnS [(.int .i64)] [tR5] ptL fns0 fgs0 fws0 (fun k (x : Int) => tokens_bad.f k x) ok trivial (fun k x => by kernel_rfl) (fun _ => ⟨trivial, trivial, trivial⟩) k
end tokens_bad

namespace tokens_bars
def s0 : PSig := ⟨0, [(99, tR5, true), (9, itT, true)], [(0, .val .str), (2, .ptr 0 []), (7, .ptr 1 [])]⟩
def s15 : PSig := ⟨0, [(99, tR5, true)], [(2, .ptr 0 []), (3, .val (.int .i64))]⟩
def ptL : List (Pt (TD [tR5])) := [⟨0, s0, fun k (x : R5d × (ByteArray × Nat) × ByteArray) => tokens_bars.p0 k x.1 x.2.1 x.2.2⟩, ⟨15, s15, fun k (x : R5d × Int) => tokens_bars.p15 k x.1 x.2⟩]
def fns : Nat → List (FuncId × FS) := fun k => [(78, tokens_bad.fs k), (45, tokens_quotable.fs k)]
def fs (k : Nat) : FS := ⟨[.str], [tR5], fun (x : ByteArray) => tokens_bars.f k x⟩
theorem ok : FnO Tryd.prog 73 34 Tryd.f73 1 := okF _ (by kernel_rfl) (by kernel_rfl)
theorem c (k : Nat) : Contract Tryd.prog 73 (fs k) :=
  fnS [.str] [tR5] ptL fns fgs0 fws0 (fun k (x : ByteArray) => tokens_bars.f k x) ok ⟨⟨rfl, fun _ => rfl, fun k x => by kernel_rfl⟩, ⟨rfl, fun _ => rfl, fun k x => by kernel_rfl⟩, trivial⟩ (fun k x => by kernel_rfl) (fun k => ⟨⟨tokens_bad.c k, tokens_quotable.c k, trivial⟩, trivial, trivial⟩) k
end tokens_bars

namespace bytealg_IndexByteString
theorem c (k : Nat) : Contract Tryd.prog 100 ⟨[.str, (.int .u8)], [(.int .i64)], fun (x : ByteArray × Int) => bytealg_IndexByteString.f k x.1 x.2⟩ :=
  indexByteString_contract (fn := Tryd.f100) (by kernel_rfl) (by kernel_rfl) (by kernel_rfl) (by kernel_rfl) (by kernel_rfl) (fun _ _ => rfl)
end bytealg_IndexByteString

namespace stringslite_IndexByte
def ptL : List (Pt (TD [(.int .i64)])) := []
def fns : Nat → List (FuncId × FS) := fun k => [(100, ⟨[.str, (.int .u8)], [(.int .i64)], fun (x : ByteArray × Int) => bytealg_IndexByteString.f k x.1 x.2⟩)]
def fs (k : Nat) : FS := ⟨[.str, (.int .u8)], [(.int .i64)], fun (x : ByteArray × Int) => stringslite_IndexByte.f k x.1 x.2⟩
theorem ok : FnO Tryd.prog 94 8 Tryd.f94 2 := okF _ (by kernel_rfl) (by kernel_rfl)
theorem c (k : Nat) : Contract Tryd.prog 94 (fs k) :=
  fnS [.str, (.int .u8)] [(.int .i64)] ptL fns fgs0 fws0 (fun k (x : ByteArray × Int) => stringslite_IndexByte.f k x.1 x.2) ok trivial (fun k x => by kernel_rfl) (fun k => ⟨⟨bytealg_IndexByteString.c k, trivial⟩, trivial, trivial⟩) k
end stringslite_IndexByte

namespace strings_ReplaceAll
theorem c (k : Nat) : Contract Tryd.prog 46 ⟨[.str, .str, .str], [.str], fun (x : ByteArray × ByteArray × ByteArray) => strings_ReplaceAll.f k x.1 x.2.1 x.2.2⟩ := repl_contract (fun _ _ _ => rfl)
end strings_ReplaceAll

namespace tokens_text
def s0 : PSig := ⟨0, [(99, tR5, true)], [(0, .val .str), (1, .val .bool), (4, .ptr 0 []), (5, .val (.int .i64))]⟩
def s4 : PSig := ⟨0, [(99, tR5, true), (9, itT, true)], [(0, .val .str), (1, .val .bool), (4, .ptr 0 []), (5, .val (.int .i64)), (11, .ptr 1 [])]⟩
def s19 : PSig := ⟨0, [(99, tR5, true)], [(0, .val .str), (1, .val .bool), (4, .ptr 0 []), (5, .val (.int .i64))]⟩
def s21 : PSig := ⟨0, [(99, tR5, true)], [(4, .ptr 0 [])]⟩
def s27 : PSig := ⟨0, [(99, tR5, true)], [(0, .val .str), (1, .val .bool), (4, .ptr 0 []), (5, .val (.int .i64))]⟩
def s29 : PSig := ⟨0, [(99, tR5, true)], [(0, .val .str), (4, .ptr 0 []), (5, .val (.int .i64))]⟩
def ptL : List (Pt (TD [tR5])) := [⟨0, s0, fun k (x : R5d × ByteArray × Bool × Int) => tokens_text.p0 k x.1 x.2.1 x.2.2.1 x.2.2.2⟩, ⟨4, s4, fun k (x : R5d × (ByteArray × Nat) × ByteArray × Bool × Int) => tokens_text.p4 k x.1 x.2.1 x.2.2.1 x.2.2.2.1 x.2.2.2.2⟩, ⟨19, s19, fun k (x : R5d × ByteArray × Bool × Int) => tokens_text.p19 k x.1 x.2.1 x.2.2.1 x.2.2.2⟩, ⟨21, s21, fun k (x : R5d) => tokens_text.p21 k x⟩, ⟨27, s27, fun k (x : R5d × ByteArray × Bool × Int) => tokens_text.p27 k x.1 x.2.1 x.2.2.1 x.2.2.2⟩, ⟨29, s29, fun k (x : R5d × ByteArray × Int) => tokens_text.p29 k x.1 x.2.1 x.2.2⟩]
def fns : Nat → List (FuncId × FS) := fun k => [(46, ⟨[.str, .str, .str], [.str], fun (x : ByteArray × ByteArray × ByteArray) => strings_ReplaceAll.f k x.1 x.2.1 x.2.2⟩), (45, tokens_quotable.fs k), (78, tokens_bad.fs k)]
def fs (k : Nat) : FS := ⟨[.str, .bool], [tR5], fun (x : ByteArray × Bool) => tokens_text.f k x.1 x.2⟩
theorem ok : FnO Tryd.prog 74 79 Tryd.f74 2 := okF _ (by kernel_rfl) (by kernel_rfl)
theorem c (k : Nat) : Contract Tryd.prog 74 (fs k) :=
  fnS [.str, .bool] [tR5] ptL fns fgs0 fws0 (fun k (x : ByteArray × Bool) => tokens_text.f k x.1 x.2) ok ⟨⟨rfl, fun _ => rfl, fun k x => by kernel_rfl⟩, ⟨rfl, fun _ => rfl, fun k x => by kernel_rfl⟩, ⟨rfl, fun _ => rfl, fun k x => by kernel_rfl⟩, ⟨rfl, fun _ => rfl, fun k x => by kernel_rfl⟩, ⟨rfl, fun _ => rfl, fun k x => by kernel_rfl⟩, ⟨rfl, fun _ => rfl, fun k x => by kernel_rfl⟩, trivial⟩ (fun k x => by kernel_rfl) (fun k => ⟨⟨strings_ReplaceAll.c k, tokens_quotable.c k, tokens_bad.c k, trivial⟩, trivial, trivial⟩) k
end tokens_text

namespace tokens_digit
def ptL : List (Pt (TD [.bool])) := []
def fs (k : Nat) : FS := ⟨[(.int .u8)], [.bool], fun (x : Int) => tokens_digit.f k x⟩
theorem ok : FnO Tryd.prog 67 9 Tryd.f67 1 := okF _ (by kernel_rfl) (by kernel_rfl)
theorem c (k : Nat) : Contract Tryd.prog 67 (fs k) :=
  fnS [(.int .u8)] [.bool] ptL fns0 fgs0 fws0 (fun k (x : Int) => tokens_digit.f k x) ok trivial (fun k x => by kernel_rfl) (fun _ => ⟨trivial, trivial, trivial⟩) k
end tokens_digit

namespace tokens_hex
def ptL : List (Pt (TD [.bool])) := []
def fns : Nat → List (FuncId × FS) := fun k => [(67, tokens_digit.fs k)]
def fs (k : Nat) : FS := ⟨[(.int .u8)], [.bool], fun (x : Int) => tokens_hex.f k x⟩
theorem ok : FnO Tryd.prog 90 15 Tryd.f90 1 := okF _ (by kernel_rfl) (by kernel_rfl)
theorem c (k : Nat) : Contract Tryd.prog 90 (fs k) :=
  fnS [(.int .u8)] [.bool] ptL fns fgs0 fws0 (fun k (x : Int) => tokens_hex.f k x) ok trivial (fun k x => by kernel_rfl) (fun k => ⟨⟨tokens_digit.c k, trivial⟩, trivial, trivial⟩) k
end tokens_hex

namespace tokens_two
def ptL : List (Pt (TD [.bool])) := []
def fs (k : Nat) : FS := ⟨[(.int .u8)], [.bool], fun (x : Int) => tokens_two.f k x⟩
theorem ok : FnO Tryd.prog 91 9 Tryd.f91 1 := okF _ (by kernel_rfl) (by kernel_rfl)
theorem c (k : Nat) : Contract Tryd.prog 91 (fs k) :=
  fnS [(.int .u8)] [.bool] ptL fns0 fgs0 fws0 (fun k (x : Int) => tokens_two.f k x) ok trivial (fun k x => by kernel_rfl) (fun _ => ⟨trivial, trivial, trivial⟩) k
end tokens_two

namespace tokens_letter
def ptL : List (Pt (TD [.bool])) := []
def fs (k : Nat) : FS := ⟨[(.int .u8)], [.bool], fun (x : Int) => tokens_letter.f k x⟩
theorem ok : FnO Tryd.prog 84 11 Tryd.f84 1 := okF _ (by kernel_rfl) (by kernel_rfl)
theorem c (k : Nat) : Contract Tryd.prog 84 (fs k) :=
  fnS [(.int .u8)] [.bool] ptL fns0 fgs0 fws0 (fun k (x : Int) => tokens_letter.f k x) ok trivial (fun k x => by kernel_rfl) (fun _ => ⟨trivial, trivial, trivial⟩) k
end tokens_letter

namespace strings_IndexByte
def ptL : List (Pt (TD [(.int .i64)])) := []
def fns : Nat → List (FuncId × FS) := fun k => [(94, stringslite_IndexByte.fs k)]
def fs (k : Nat) : FS := ⟨[.str, (.int .u8)], [(.int .i64)], fun (x : ByteArray × Int) => strings_IndexByte.f k x.1 x.2⟩
theorem ok : FnO Tryd.prog 85 8 Tryd.f85 2 := okF _ (by kernel_rfl) (by kernel_rfl)
theorem c (k : Nat) : Contract Tryd.prog 85 (fs k) :=
  fnS [.str, (.int .u8)] [(.int .i64)] ptL fns fgs0 fws0 (fun k (x : ByteArray × Int) => strings_IndexByte.f k x.1 x.2) ok trivial (fun k x => by kernel_rfl) (fun k => ⟨⟨stringslite_IndexByte.c k, trivial⟩, trivial, trivial⟩) k
end strings_IndexByte

namespace tokens_sign
def ptL : List (Pt (TD [.bool])) := []
def fns : Nat → List (FuncId × FS) := fun k => [(84, tokens_letter.fs k), (67, tokens_digit.fs k), (85, strings_IndexByte.fs k)]
def fs (k : Nat) : FS := ⟨[(.int .u8)], [.bool], fun (x : Int) => tokens_sign.f k x⟩
theorem ok : FnO Tryd.prog 68 14 Tryd.f68 1 := okF _ (by kernel_rfl) (by kernel_rfl)
theorem c (k : Nat) : Contract Tryd.prog 68 (fs k) :=
  fnS [(.int .u8)] [.bool] ptL fns fgs0 fws0 (fun k (x : Int) => tokens_sign.f k x) ok trivial (fun k x => by kernel_rfl) (fun k => ⟨⟨tokens_letter.c k, tokens_digit.c k, strings_IndexByte.c k, trivial⟩, trivial, trivial⟩) k
end tokens_sign

namespace tokens_ends
def s7 : PSig := ⟨0, [(99, tR5, true)], [(0, .val .str), (2, .val (.int .i64)), (3, .val (.int .i64)), (4, .val (.int .i64)), (10, .ptr 0 [])]⟩
def s11 : PSig := ⟨0, [(99, tR5, true)], [(0, .val .str), (2, .val (.int .i64)), (3, .val (.int .i64)), (4, .val (.int .i64)), (10, .ptr 0 [])]⟩
def ptL : List (Pt (TD [tR5])) := [⟨7, s7, fun k (x : R5d × ByteArray × Int × Int × Int) => tokens_ends.p7 k x.1 x.2.1 x.2.2.1 x.2.2.2.1 x.2.2.2.2⟩, ⟨11, s11, fun k (x : R5d × ByteArray × Int × Int × Int) => tokens_ends.p11 k x.1 x.2.1 x.2.2.1 x.2.2.2.1 x.2.2.2.2⟩]
def fns : Nat → List (FuncId × FS) := fun k => [(68, tokens_sign.fs k), (78, tokens_bad.fs k)]
def fs (k : Nat) : FS := ⟨[.str, .bool, (.int .i64), (.int .i64), (.int .i64)], [tR5], fun (x : ByteArray × Bool × Int × Int × Int) => tokens_ends.f k x.1 x.2.1 x.2.2.1 x.2.2.2.1 x.2.2.2.2⟩
theorem ok : FnO Tryd.prog 93 40 Tryd.f93 5 := okF _ (by kernel_rfl) (by kernel_rfl)
theorem c (k : Nat) : Contract Tryd.prog 93 (fs k) :=
  fnS [.str, .bool, (.int .i64), (.int .i64), (.int .i64)] [tR5] ptL fns fgs0 fws0 (fun k (x : ByteArray × Bool × Int × Int × Int) => tokens_ends.f k x.1 x.2.1 x.2.2.1 x.2.2.2.1 x.2.2.2.2) ok ⟨⟨rfl, fun _ => rfl, fun k x => by kernel_rfl⟩, ⟨rfl, fun _ => rfl, fun k x => by kernel_rfl⟩, trivial⟩ (fun k x => by kernel_rfl) (fun k => ⟨⟨tokens_sign.c k, tokens_bad.c k, trivial⟩, trivial, trivial⟩) k
end tokens_ends

namespace tokens_run_hex
def s0 : PSig := ⟨0, [], [(0, .val .str), (1, .fn 90), (5, .val (.int .i64))]⟩
def s9 : PSig := ⟨0, [], [(5, .val (.int .i64))]⟩
def ptL : List (Pt (TD [(.int .i64)])) := [⟨0, s0, fun k (x : ByteArray × Int) => tokens_run_hex.p0 k x.1 x.2⟩, ⟨9, s9, fun k (x : Int) => tokens_run_hex.p9 k x⟩]
def fns : Nat → List (FuncId × FS) := fun k => [(90, tokens_hex.fs k)]
def fs (k : Nat) : FS := ⟨[.str, (.fnc 90)], [(.int .i64)], fun (x : ByteArray × Unit) => tokens_run_hex.f k x.1 x.2⟩
theorem ok : FnO Tryd.prog 92 20 Tryd.f92 2 := okF _ (by kernel_rfl) (by kernel_rfl)
theorem c (k : Nat) : Contract Tryd.prog 92 (fs k) :=
  fnS [.str, (.fnc 90)] [(.int .i64)] ptL fns fgs0 fws0 (fun k (x : ByteArray × Unit) => tokens_run_hex.f k x.1 x.2) ok ⟨⟨rfl, fun _ => rfl, fun k x => by kernel_rfl⟩, ⟨rfl, fun _ => rfl, fun k x => by kernel_rfl⟩, trivial⟩ (fun k x => by kernel_rfl) (fun k => ⟨⟨tokens_hex.c k, trivial⟩, trivial, trivial⟩) k
end tokens_run_hex

namespace tokens_run_two
def s0 : PSig := ⟨0, [], [(0, .val .str), (1, .fn 91), (5, .val (.int .i64))]⟩
def s9 : PSig := ⟨0, [], [(5, .val (.int .i64))]⟩
def ptL : List (Pt (TD [(.int .i64)])) := [⟨0, s0, fun k (x : ByteArray × Int) => tokens_run_two.p0 k x.1 x.2⟩, ⟨9, s9, fun k (x : Int) => tokens_run_two.p9 k x⟩]
def fns : Nat → List (FuncId × FS) := fun k => [(91, tokens_two.fs k)]
def fs (k : Nat) : FS := ⟨[.str, (.fnc 91)], [(.int .i64)], fun (x : ByteArray × Unit) => tokens_run_two.f k x.1 x.2⟩
theorem ok : FnO Tryd.prog 92 20 Tryd.f92 2 := okF _ (by kernel_rfl) (by kernel_rfl)
theorem c (k : Nat) : Contract Tryd.prog 92 (fs k) :=
  fnS [.str, (.fnc 91)] [(.int .i64)] ptL fns fgs0 fws0 (fun k (x : ByteArray × Unit) => tokens_run_two.f k x.1 x.2) ok ⟨⟨rfl, fun _ => rfl, fun k x => by kernel_rfl⟩, ⟨rfl, fun _ => rfl, fun k x => by kernel_rfl⟩, trivial⟩ (fun k x => by kernel_rfl) (fun k => ⟨⟨tokens_two.c k, trivial⟩, trivial, trivial⟩) k
end tokens_run_two

namespace tokens_sharp
def s25 : PSig := ⟨0, [(99, tR5, true)], [(0, .val .str), (1, .val .bool), (4, .ptr 0 []), (5, .val (.int .i64)), (7, .val (.int .i64))]⟩
def s31 : PSig := ⟨0, [(99, tR5, true)], [(4, .ptr 0 [])]⟩
def ptL : List (Pt (TD [tR5])) := [⟨25, s25, fun k (x : R5d × ByteArray × Bool × Int × Int) => tokens_sharp.p25 k x.1 x.2.1 x.2.2.1 x.2.2.2.1 x.2.2.2.2⟩, ⟨31, s31, fun k (x : R5d) => tokens_sharp.p31 k x⟩]
def fns : Nat → List (FuncId × FS) := fun k => [(78, tokens_bad.fs k), (92, tokens_run_hex.fs k), (93, tokens_ends.fs k), (92, tokens_run_two.fs k)]
def fs (k : Nat) : FS := ⟨[.str, .bool], [tR5], fun (x : ByteArray × Bool) => tokens_sharp.f k x.1 x.2⟩
theorem ok : FnO Tryd.prog 75 42 Tryd.f75 2 := okF _ (by kernel_rfl) (by kernel_rfl)
theorem c (k : Nat) : Contract Tryd.prog 75 (fs k) :=
  fnS [.str, .bool] [tR5] ptL fns fgs0 fws0 (fun k (x : ByteArray × Bool) => tokens_sharp.f k x.1 x.2) ok ⟨⟨rfl, fun _ => rfl, fun k x => by kernel_rfl⟩, ⟨rfl, fun _ => rfl, fun k x => by kernel_rfl⟩, trivial⟩ (fun k x => by kernel_rfl) (fun k => ⟨⟨tokens_bad.c k, tokens_run_hex.c k, tokens_ends.c k, tokens_run_two.c k, trivial⟩, trivial, trivial⟩) k
end tokens_sharp

namespace tokens_run_sign
def s0 : PSig := ⟨0, [], [(0, .val .str), (1, .fn 68), (5, .val (.int .i64))]⟩
def s9 : PSig := ⟨0, [], [(5, .val (.int .i64))]⟩
def ptL : List (Pt (TD [(.int .i64)])) := [⟨0, s0, fun k (x : ByteArray × Int) => tokens_run_sign.p0 k x.1 x.2⟩, ⟨9, s9, fun k (x : Int) => tokens_run_sign.p9 k x⟩]
def fns : Nat → List (FuncId × FS) := fun k => [(68, tokens_sign.fs k)]
def fs (k : Nat) : FS := ⟨[.str, (.fnc 68)], [(.int .i64)], fun (x : ByteArray × Unit) => tokens_run_sign.f k x.1 x.2⟩
theorem ok : FnO Tryd.prog 92 20 Tryd.f92 2 := okF _ (by kernel_rfl) (by kernel_rfl)
theorem c (k : Nat) : Contract Tryd.prog 92 (fs k) :=
  fnS [.str, (.fnc 68)] [(.int .i64)] ptL fns fgs0 fws0 (fun k (x : ByteArray × Unit) => tokens_run_sign.f k x.1 x.2) ok ⟨⟨rfl, fun _ => rfl, fun k x => by kernel_rfl⟩, ⟨rfl, fun _ => rfl, fun k x => by kernel_rfl⟩, trivial⟩ (fun k x => by kernel_rfl) (fun k => ⟨⟨tokens_sign.c k, trivial⟩, trivial, trivial⟩) k
end tokens_run_sign

namespace tokens_word
def s9 : PSig := ⟨0, [(99, tR5, true)], [(0, .val .str), (1, .val .bool), (2, .val (.int .i64)), (3, .val (.int .i64)), (8, .ptr 0 []), (9, .val (.int .i64))]⟩
def s13 : PSig := ⟨0, [(99, tR5, true)], [(0, .val .str), (2, .val (.int .i64)), (3, .val (.int .i64)), (8, .ptr 0 []), (9, .val (.int .i64))]⟩
def ptL : List (Pt (TD [tR5])) := [⟨9, s9, fun k (x : R5d × ByteArray × Bool × Int × Int × Int) => tokens_word.p9 k x.1 x.2.1 x.2.2.1 x.2.2.2.1 x.2.2.2.2.1 x.2.2.2.2.2⟩, ⟨13, s13, fun k (x : R5d × ByteArray × Int × Int × Int) => tokens_word.p13 k x.1 x.2.1 x.2.2.1 x.2.2.2.1 x.2.2.2.2⟩]
def fns : Nat → List (FuncId × FS) := fun k => [(92, tokens_run_sign.fs k), (67, tokens_digit.fs k), (78, tokens_bad.fs k)]
def fs (k : Nat) : FS := ⟨[.str, .bool, (.int .i64), (.int .i64)], [tR5], fun (x : ByteArray × Bool × Int × Int) => tokens_word.f k x.1 x.2.1 x.2.2.1 x.2.2.2⟩
theorem ok : FnO Tryd.prog 76 49 Tryd.f76 4 := okF _ (by kernel_rfl) (by kernel_rfl)
theorem c (k : Nat) : Contract Tryd.prog 76 (fs k) :=
  fnS [.str, .bool, (.int .i64), (.int .i64)] [tR5] ptL fns fgs0 fws0 (fun k (x : ByteArray × Bool × Int × Int) => tokens_word.f k x.1 x.2.1 x.2.2.1 x.2.2.2) ok ⟨⟨rfl, fun _ => rfl, fun k x => by kernel_rfl⟩, ⟨rfl, fun _ => rfl, fun k x => by kernel_rfl⟩, trivial⟩ (fun k x => by kernel_rfl) (fun k => ⟨⟨tokens_run_sign.c k, tokens_digit.c k, tokens_bad.c k, trivial⟩, trivial, trivial⟩) k
end tokens_word

namespace tokens_run_digit
def s0 : PSig := ⟨0, [], [(0, .val .str), (1, .fn 67), (5, .val (.int .i64))]⟩
def s9 : PSig := ⟨0, [], [(5, .val (.int .i64))]⟩
def ptL : List (Pt (TD [(.int .i64)])) := [⟨0, s0, fun k (x : ByteArray × Int) => tokens_run_digit.p0 k x.1 x.2⟩, ⟨9, s9, fun k (x : Int) => tokens_run_digit.p9 k x⟩]
def fns : Nat → List (FuncId × FS) := fun k => [(67, tokens_digit.fs k)]
def fs (k : Nat) : FS := ⟨[.str, (.fnc 67)], [(.int .i64)], fun (x : ByteArray × Unit) => tokens_run_digit.f k x.1 x.2⟩
theorem ok : FnO Tryd.prog 92 20 Tryd.f92 2 := okF _ (by kernel_rfl) (by kernel_rfl)
theorem c (k : Nat) : Contract Tryd.prog 92 (fs k) :=
  fnS [.str, (.fnc 67)] [(.int .i64)] ptL fns fgs0 fws0 (fun k (x : ByteArray × Unit) => tokens_run_digit.f k x.1 x.2) ok ⟨⟨rfl, fun _ => rfl, fun k x => by kernel_rfl⟩, ⟨rfl, fun _ => rfl, fun k x => by kernel_rfl⟩, trivial⟩ (fun k x => by kernel_rfl) (fun k => ⟨⟨tokens_digit.c k, trivial⟩, trivial, trivial⟩) k
end tokens_run_digit

namespace tokens_number
def s9 : PSig := ⟨0, [(99, tR5, true)], [(0, .val .str), (1, .val .bool), (4, .ptr 0 []), (5, .val (.int .i64))]⟩
def s11 : PSig := ⟨0, [(99, tR5, true)], [(0, .val .str), (1, .val .bool), (4, .ptr 0 []), (5, .val (.int .i64))]⟩
def s21 : PSig := ⟨0, [(99, tR5, true)], [(4, .ptr 0 [])]⟩
def ptL : List (Pt (TD [tR5])) := [⟨9, s9, fun k (x : R5d × ByteArray × Bool × Int) => tokens_number.p9 k x.1 x.2.1 x.2.2.1 x.2.2.2⟩, ⟨11, s11, fun k (x : R5d × ByteArray × Bool × Int) => tokens_number.p11 k x.1 x.2.1 x.2.2.1 x.2.2.2⟩, ⟨21, s21, fun k (x : R5d) => tokens_number.p21 k x⟩]
def fns : Nat → List (FuncId × FS) := fun k => [(92, tokens_run_digit.fs k), (78, tokens_bad.fs k), (93, tokens_ends.fs k)]
def fs (k : Nat) : FS := ⟨[.str, .bool], [tR5], fun (x : ByteArray × Bool) => tokens_number.f k x.1 x.2⟩
theorem ok : FnO Tryd.prog 77 56 Tryd.f77 2 := okF _ (by kernel_rfl) (by kernel_rfl)
theorem c (k : Nat) : Contract Tryd.prog 77 (fs k) :=
  fnS [.str, .bool] [tR5] ptL fns fgs0 fws0 (fun k (x : ByteArray × Bool) => tokens_number.f k x.1 x.2) ok ⟨⟨rfl, fun _ => rfl, fun k x => by kernel_rfl⟩, ⟨rfl, fun _ => rfl, fun k x => by kernel_rfl⟩, ⟨rfl, fun _ => rfl, fun k x => by kernel_rfl⟩, trivial⟩ (fun k x => by kernel_rfl) (fun k => ⟨⟨tokens_run_digit.c k, tokens_bad.c k, tokens_ends.c k, trivial⟩, trivial, trivial⟩) k
end tokens_number

namespace tokens_front
def ptL : List (Pt (TD [tR5])) := []
def fns : Nat → List (FuncId × FS) := fun k => [(73, tokens_bars.fs k), (74, tokens_text.fs k), (75, tokens_sharp.fs k), (76, tokens_word.fs k), (67, tokens_digit.fs k), (77, tokens_number.fs k), (68, tokens_sign.fs k), (78, tokens_bad.fs k)]
def fs (k : Nat) : FS := ⟨[.str, .bool], [tR5], fun (x : ByteArray × Bool) => tokens_front.f k x.1 x.2⟩
theorem ok : FnO Tryd.prog 53 52 Tryd.f53 2 := okF _ (by kernel_rfl) (by kernel_rfl)
theorem c (k : Nat) : Contract Tryd.prog 53 (fs k) :=
  fnS [.str, .bool] [tR5] ptL fns fgs0 fws0 (fun k (x : ByteArray × Bool) => tokens_front.f k x.1 x.2) ok trivial (fun k x => by kernel_rfl) (fun k => ⟨⟨tokens_bars.c k, tokens_text.c k, tokens_sharp.c k, tokens_word.c k, tokens_digit.c k, tokens_number.c k, tokens_sign.c k, tokens_bad.c k, trivial⟩, trivial, trivial⟩) k
end tokens_front

namespace stringslite_Clone
theorem c (k : Nat) : Contract Tryd.prog 79 ⟨[.str], [.str], fun (x : ByteArray) => stringslite_Clone.f k x⟩ := clone_contract (fun _ => rfl)
end stringslite_Clone

namespace strings_Clone
def ptL : List (Pt (TD [.str])) := []
def fns : Nat → List (FuncId × FS) := fun k => [(79, ⟨[.str], [.str], fun (x : ByteArray) => stringslite_Clone.f k x⟩)]
def fs (k : Nat) : FS := ⟨[.str], [.str], fun (x : ByteArray) => strings_Clone.f k x⟩
theorem ok : FnO Tryd.prog 55 5 Tryd.f55 1 := okF _ (by kernel_rfl) (by kernel_rfl)
theorem c (k : Nat) : Contract Tryd.prog 55 (fs k) :=
  fnS [.str] [.str] ptL fns fgs0 fws0 (fun k (x : ByteArray) => strings_Clone.f k x) ok trivial (fun k x => by kernel_rfl) (fun k => ⟨⟨stringslite_Clone.c k, trivial⟩, trivial, trivial⟩) k
end strings_Clone

namespace tokens_Scanner_tell
def s0 : PSig := ⟨1, [(80, tSc, true), (32, tokT, false)], [(0, .ptr 0 []), (1, .val .bool), (6, .own 1)]⟩
def s17 : PSig := ⟨1, [(80, tSc, true), (32, tokT, false), (99, tR5, true)], [(0, .ptr 0 []), (1, .val .bool), (6, .own 1), (7, .ptr 2 [])]⟩
def s19 : PSig := ⟨1, [(80, tSc, true), (32, tokT, false), (99, tR5, true)], [(0, .ptr 0 []), (6, .own 1), (7, .ptr 2 [])]⟩
def ptL : List (Pt (TD ([.obj 80 tSc, .val .bool].flatMap PK.outs ++ [(.list tokT), (.int .i64)]))) := [⟨0, s0, fun k (x : SCD × (List TokD) × Bool) => tokens_Scanner_tell.p0 k x.1 x.2.1 x.2.2⟩, ⟨17, s17, fun k (x : SCD × (List TokD) × R5d × Bool) => tokens_Scanner_tell.p17 k x.1 x.2.1 x.2.2.1 x.2.2.2⟩, ⟨19, s19, fun k (x : SCD × (List TokD) × R5d) => tokens_Scanner_tell.p19 k x.1 x.2.1 x.2.2⟩]
def fns : Nat → List (FuncId × FS) := fun k => [(53, tokens_front.fs k), (55, strings_Clone.fs k)]
def fgs : Nat → List (FuncId × FG) := fun k => [(52, ⟨[.obj 80 tSc], [], none, fun (x : SCD) => tokens_Scanner_skip.f k x⟩), (54, ⟨[.obj 80 tSc, .val (.int .i64)], [], none, fun (x : SCD × Int) => tokens_Scanner_pass.f k x.1 x.2⟩)]
def fg (k : Nat) : FG := ⟨[.obj 80 tSc, .val .bool], [(.list tokT), (.int .i64)], some 32, fun (x : SCD × Bool) => tokens_Scanner_tell.f k x.1 x.2⟩
theorem ok : FnO Tryd.prog 39 81 Tryd.f39 2 := okF _ (by kernel_rfl) (by kernel_rfl)
theorem c (k : Nat) : ContractG Tryd.prog 39 (fg k) :=
  fn_soundG (ps := [.obj 80 tSc, .val .bool]) (rs := [(.list tokT), (.int .i64)]) (pts := ptL) (fns := fns) (fgs := fgs) (fws := fws0) (tys := tyTab) (main := fun k (x : SCD × Bool) => tokens_Scanner_tell.f k x.1 x.2) ok rfl mix tyOk ⟨⟨rfl, fun _ => rfl, fun k x => by kernel_rfl⟩, ⟨rfl, fun _ => rfl, fun k x => by kernel_rfl⟩, ⟨rfl, fun _ => rfl, fun k x => by kernel_rfl⟩, trivial⟩ (fun k x => by kernel_rfl) (fun k => ⟨⟨tokens_front.c k, strings_Clone.c k, trivial⟩, ⟨tokens_Scanner_skip.c k, tokens_Scanner_pass.c k, trivial⟩, trivial⟩) k
end tokens_Scanner_tell

namespace tokens_Scanner_Feed
def ptL : List (Pt (TD ([.obj 80 tSc, .val .str].flatMap PK.outs ++ [(.list tokT), (.int .i64)]))) := []
def fgs : Nat → List (FuncId × FG) := fun k => [(38, ⟨[.obj 80 tSc], [(.int .i64), .bool], none, fun (x : SCD) => tokens_Scanner_answers.f k x⟩), (39, ⟨[.obj 80 tSc, .val .bool], [(.list tokT), (.int .i64)], some 32, fun (x : SCD × Bool) => tokens_Scanner_tell.f k x.1 x.2⟩)]
def fg (k : Nat) : FG := ⟨[.obj 80 tSc, .val .str], [(.list tokT), (.int .i64)], some 32, fun (x : SCD × ByteArray) => tokens_Scanner_Feed.f k x.1 x.2⟩
theorem ok : FnO Tryd.prog 29 27 Tryd.f29 2 := okF _ (by kernel_rfl) (by kernel_rfl)
theorem c (k : Nat) : ContractG Tryd.prog 29 (fg k) :=
  fn_soundG (ps := [.obj 80 tSc, .val .str]) (rs := [(.list tokT), (.int .i64)]) (pts := ptL) (fns := fns0) (fgs := fgs) (fws := fws0) (tys := tyTab) (main := fun k (x : SCD × ByteArray) => tokens_Scanner_Feed.f k x.1 x.2) ok rfl mix tyOk trivial (fun k x => by kernel_rfl) (fun k => ⟨trivial, ⟨tokens_Scanner_answers.c k, tokens_Scanner_tell.c k, trivial⟩, trivial⟩) k
end tokens_Scanner_Feed

namespace tokens_Scanner_At
def ptL : List (Pt (TD ([.obj 80 tSc].flatMap PK.outs ++ [tokT]))) := []
def fns : Nat → List (FuncId × FS) := fun k => [(35, tokens_begin.fs k)]
def fg (k : Nat) : FG := ⟨[.obj 80 tSc], [tokT], none, fun (x : SCD) => tokens_Scanner_At.f k x⟩
theorem ok : FnO Tryd.prog 37 17 Tryd.f37 1 := okF _ (by kernel_rfl) (by kernel_rfl)
theorem c (k : Nat) : ContractG Tryd.prog 37 (fg k) :=
  fn_soundG (ps := [.obj 80 tSc]) (rs := [tokT]) (pts := ptL) (fns := fns) (fgs := fgs0) (fws := fws0) (tys := tyTab) (main := fun k (x : SCD) => tokens_Scanner_At.f k x) ok rfl mix tyOk trivial (fun k x => by kernel_rfl) (fun k => ⟨⟨tokens_begin.c k, trivial⟩, trivial, trivial⟩) k
end tokens_Scanner_At

namespace tokens_Scanner_End
def s15 : PSig := ⟨1, [(80, tSc, true), (32, tokT, false)], [(6, .own 1), (7, .val (.int .i64))]⟩
def ptL : List (Pt (TD ([.obj 80 tSc].flatMap PK.outs ++ [(.list tokT), (.int .i64)]))) := [⟨15, s15, fun k (x : SCD × (List TokD) × Int) => tokens_Scanner_End.p15 k x.1 x.2.1 x.2.2⟩]
def fgs : Nat → List (FuncId × FG) := fun k => [(38, ⟨[.obj 80 tSc], [(.int .i64), .bool], none, fun (x : SCD) => tokens_Scanner_answers.f k x⟩), (39, ⟨[.obj 80 tSc, .val .bool], [(.list tokT), (.int .i64)], some 32, fun (x : SCD × Bool) => tokens_Scanner_tell.f k x.1 x.2⟩)]
def fg (k : Nat) : FG := ⟨[.obj 80 tSc], [(.list tokT), (.int .i64)], some 32, fun (x : SCD) => tokens_Scanner_End.f k x⟩
theorem ok : FnO Tryd.prog 30 27 Tryd.f30 1 := okF _ (by kernel_rfl) (by kernel_rfl)
theorem c (k : Nat) : ContractG Tryd.prog 30 (fg k) :=
  fn_soundG (ps := [.obj 80 tSc]) (rs := [(.list tokT), (.int .i64)]) (pts := ptL) (fns := fns0) (fgs := fgs) (fws := fws0) (tys := tyTab) (main := fun k (x : SCD) => tokens_Scanner_End.f k x) ok rfl mix tyOk ⟨⟨rfl, fun _ => rfl, fun k x => by kernel_rfl⟩, trivial⟩ (fun k x => by kernel_rfl) (fun k => ⟨trivial, ⟨tokens_Scanner_answers.c k, tokens_Scanner_tell.c k, trivial⟩, trivial⟩) k
end tokens_Scanner_End

namespace sexpr_Read
theorem c (k : Nat) : Contract Tryd.prog 7 ⟨[.str], [.list nodeT, .int .i64, .int .i64], fun (x : ByteArray) => sexpr_Read.f k x⟩ := read_contract (newF := tokens_New.f k ()) (feedF := fun x s => tokens_Scanner_Feed.f k x s) (endF := fun x => tokens_Scanner_End.f k x) (atF := fun x => tokens_Scanner_At.f k x) ⟨tokens_New.cw k, weakG (tokens_Scanner_Feed.c k), weakG (tokens_Scanner_End.c k), tokens_Scanner_At.c k⟩
end sexpr_Read

namespace ref12_blank
def ptL : List (Pt (TD [.bool])) := []
def fs (k : Nat) : FS := ⟨[(.int .u8)], [.bool], fun (x : Int) => ref12_blank.f k x⟩
theorem ok : FnO Tryd.prog 56 17 Tryd.f56 1 := okF _ (by kernel_rfl) (by kernel_rfl)
theorem c (k : Nat) : Contract Tryd.prog 56 (fs k) :=
  fnS [(.int .u8)] [.bool] ptL fns0 fgs0 fws0 (fun k (x : Int) => ref12_blank.f k x) ok trivial (fun k x => by kernel_rfl) (fun _ => ⟨trivial, trivial, trivial⟩) k
end ref12_blank

namespace ref12_gap
def s0 : PSig := ⟨0, [], [(0, .val .str), (1, .val (.int .i64))]⟩
def s4 : PSig := ⟨0, [], [(0, .val .str), (1, .val (.int .i64))]⟩
def ptL : List (Pt (TD [(.int .i64)])) := [⟨0, s0, fun k (x : ByteArray × Int) => ref12_gap.p0 k x.1 x.2⟩, ⟨4, s4, fun k (x : ByteArray × Int) => ref12_gap.p4 k x.1 x.2⟩]
def fns : Nat → List (FuncId × FS) := fun k => [(56, ref12_blank.fs k)]
def fs (k : Nat) : FS := ⟨[.str, (.int .i64)], [(.int .i64)], fun (x : ByteArray × Int) => ref12_gap.f k x.1 x.2⟩
theorem ok : FnO Tryd.prog 40 39 Tryd.f40 2 := okF _ (by kernel_rfl) (by kernel_rfl)
theorem c (k : Nat) : Contract Tryd.prog 40 (fs k) :=
  fnS [.str, (.int .i64)] [(.int .i64)] ptL fns fgs0 fws0 (fun k (x : ByteArray × Int) => ref12_gap.f k x.1 x.2) ok ⟨⟨rfl, fun _ => rfl, fun k x => by kernel_rfl⟩, ⟨rfl, fun _ => rfl, fun k x => by kernel_rfl⟩, trivial⟩ (fun k x => by kernel_rfl) (fun k => ⟨⟨ref12_blank.c k, trivial⟩, trivial, trivial⟩) k
end ref12_gap

namespace ref12_unless
def s7 : PSig := ⟨0, [(87, tSE, true)], [(0, .val (.int .i64)), (1, .val .str), (2, .val (.int .i64)), (10, .ptr 0 [])]⟩
def ptL : List (Pt (TD [tSE])) := [⟨7, s7, fun k (x : SEd × Int × ByteArray × Int) => ref12_unless.p7 k x.1 x.2.1 x.2.2.1 x.2.2.2⟩]
def fs (k : Nat) : FS := ⟨[(.int .i64), .str, (.int .i64), .bool, .bool], [tSE], fun (x : Int × ByteArray × Int × Bool × Bool) => ref12_unless.f k x.1 x.2.1 x.2.2.1 x.2.2.2.1 x.2.2.2.2⟩
theorem ok : FnO Tryd.prog 65 21 Tryd.f65 5 := okF _ (by kernel_rfl) (by kernel_rfl)
theorem c (k : Nat) : Contract Tryd.prog 65 (fs k) :=
  fnS [(.int .i64), .str, (.int .i64), .bool, .bool] [tSE] ptL fns0 fgs0 fws0 (fun k (x : Int × ByteArray × Int × Bool × Bool) => ref12_unless.f k x.1 x.2.1 x.2.2.1 x.2.2.2.1 x.2.2.2.2) ok ⟨⟨rfl, fun _ => rfl, fun k x => by kernel_rfl⟩, trivial⟩ (fun k x => by kernel_rfl) (fun _ => ⟨trivial, trivial, trivial⟩) k
end ref12_unless

namespace ref12_quotable
def ptL : List (Pt (TD [.bool])) := []
def fns : Nat → List (FuncId × FS) := fun k => [(56, ref12_blank.fs k)]
def fs (k : Nat) : FS := ⟨[(.int .u8)], [.bool], fun (x : Int) => ref12_quotable.f k x⟩
theorem ok : FnO Tryd.prog 80 17 Tryd.f80 1 := okF _ (by kernel_rfl) (by kernel_rfl)
theorem c (k : Nat) : Contract Tryd.prog 80 (fs k) :=
  fnS [(.int .u8)] [.bool] ptL fns fgs0 fws0 (fun k (x : Int) => ref12_quotable.f k x) ok trivial (fun k x => by kernel_rfl) (fun k => ⟨⟨ref12_blank.c k, trivial⟩, trivial, trivial⟩) k
end ref12_quotable

namespace ref12_bad
def ptL : List (Pt (TD [tSE])) := []
def fs (k : Nat) : FS := ⟨[(.int .i64)], [tSE], fun (x : Int) => ref12_bad.f k x⟩
theorem ok : FnO Tryd.prog 66 5 Tryd.f66 1 := okF _ (by kernel_rfl) (by kernel_rfl)
theorem c (k : Nat) : Contract Tryd.prog 66 (fs k) :=
  fnS [(.int .i64)] [tSE] ptL fns0 fgs0 fws0 (fun k (x : Int) => ref12_bad.f k x) ok trivial (fun k x => by kernel_rfl) (fun _ => ⟨trivial, trivial, trivial⟩) k
end ref12_bad

namespace ref12_quoted
def s0 : PSig := ⟨0, [(87, tSE, true), (5, (.int .u8), false)], [(0, .val .str), (1, .val (.int .i64)), (2, .val .bool), (6, .ptr 0 []), (7, .own 1), (8, .val (.int .i64))]⟩
def s17 : PSig := ⟨0, [(87, tSE, true), (5, (.int .u8), false)], [(0, .val .str), (2, .val .bool), (6, .ptr 0 []), (7, .own 1), (8, .val (.int .i64))]⟩
def ptL : List (Pt (TD [tSE])) := [⟨0, s0, fun k (x : SEd × LX × ByteArray × Int × Bool × Int) => ref12_quoted.p0 k x.1 x.2.1 x.2.2.1 x.2.2.2.1 x.2.2.2.2.1 x.2.2.2.2.2⟩, ⟨17, s17, fun k (x : SEd × LX × ByteArray × Bool × Int) => ref12_quoted.p17 k x.1 x.2.1 x.2.2.1 x.2.2.2.1 x.2.2.2.2⟩]
def fns : Nat → List (FuncId × FS) := fun k => [(65, ref12_unless.fs k), (80, ref12_quotable.fs k), (66, ref12_bad.fs k)]
def fs (k : Nat) : FS := ⟨[.str, (.int .i64), .bool], [tSE], fun (x : ByteArray × Int × Bool) => ref12_quoted.f k x.1 x.2.1 x.2.2⟩
theorem ok : FnO Tryd.prog 57 66 Tryd.f57 3 := okF _ (by kernel_rfl) (by kernel_rfl)
theorem c (k : Nat) : Contract Tryd.prog 57 (fs k) :=
  fnS [.str, (.int .i64), .bool] [tSE] ptL fns fgs0 fws0 (fun k (x : ByteArray × Int × Bool) => ref12_quoted.f k x.1 x.2.1 x.2.2) ok ⟨⟨rfl, fun _ => rfl, fun k x => by kernel_rfl⟩, ⟨rfl, fun _ => rfl, fun k x => by kernel_rfl⟩, trivial⟩ (fun k x => by kernel_rfl) (fun k => ⟨⟨ref12_unless.c k, ref12_quotable.c k, ref12_bad.c k, trivial⟩, trivial, trivial⟩) k
end ref12_quoted

namespace ref12_barred
def s0 : PSig := ⟨0, [(87, tSE, true)], [(0, .val .str), (1, .val (.int .i64)), (2, .val .bool), (6, .ptr 0 []), (7, .val (.int .i64))]⟩
def s15 : PSig := ⟨0, [(87, tSE, true)], [(6, .ptr 0 []), (7, .val (.int .i64))]⟩
def ptL : List (Pt (TD [tSE])) := [⟨0, s0, fun k (x : SEd × ByteArray × Int × Bool × Int) => ref12_barred.p0 k x.1 x.2.1 x.2.2.1 x.2.2.2.1 x.2.2.2.2⟩, ⟨15, s15, fun k (x : SEd × Int) => ref12_barred.p15 k x.1 x.2⟩]
def fns : Nat → List (FuncId × FS) := fun k => [(80, ref12_quotable.fs k), (66, ref12_bad.fs k)]
def fs (k : Nat) : FS := ⟨[.str, (.int .i64), .bool], [tSE], fun (x : ByteArray × Int × Bool) => ref12_barred.f k x.1 x.2.1 x.2.2⟩
theorem ok : FnO Tryd.prog 58 45 Tryd.f58 3 := okF _ (by kernel_rfl) (by kernel_rfl)
theorem c (k : Nat) : Contract Tryd.prog 58 (fs k) :=
  fnS [.str, (.int .i64), .bool] [tSE] ptL fns fgs0 fws0 (fun k (x : ByteArray × Int × Bool) => ref12_barred.f k x.1 x.2.1 x.2.2) ok ⟨⟨rfl, fun _ => rfl, fun k x => by kernel_rfl⟩, ⟨rfl, fun _ => rfl, fun k x => by kernel_rfl⟩, trivial⟩ (fun k x => by kernel_rfl) (fun k => ⟨⟨ref12_quotable.c k, ref12_bad.c k, trivial⟩, trivial, trivial⟩) k
end ref12_barred

namespace ref12_letter
def ptL : List (Pt (TD [.bool])) := []
def fs (k : Nat) : FS := ⟨[(.int .u8)], [.bool], fun (x : Int) => ref12_letter.f k x⟩
theorem ok : FnO Tryd.prog 82 17 Tryd.f82 1 := okF _ (by kernel_rfl) (by kernel_rfl)
theorem c (k : Nat) : Contract Tryd.prog 82 (fs k) :=
  fnS [(.int .u8)] [.bool] ptL fns0 fgs0 fws0 (fun k (x : Int) => ref12_letter.f k x) ok trivial (fun k x => by kernel_rfl) (fun _ => ⟨trivial, trivial, trivial⟩) k
end ref12_letter

namespace ref12_digit
def ptL : List (Pt (TD [.bool])) := []
def fs (k : Nat) : FS := ⟨[(.int .u8)], [.bool], fun (x : Int) => ref12_digit.f k x⟩
theorem ok : FnO Tryd.prog 61 9 Tryd.f61 1 := okF _ (by kernel_rfl) (by kernel_rfl)
theorem c (k : Nat) : Contract Tryd.prog 61 (fs k) :=
  fnS [(.int .u8)] [.bool] ptL fns0 fgs0 fws0 (fun k (x : Int) => ref12_digit.f k x) ok trivial (fun k x => by kernel_rfl) (fun _ => ⟨trivial, trivial, trivial⟩) k
end ref12_digit

namespace ref12_within
def s0 : PSig := ⟨0, [], [(0, .val (.int .u8)), (1, .val .str), (5, .val (.int .i64))]⟩
def ptL : List (Pt (TD [.bool])) := [⟨0, s0, fun k (x : Int × ByteArray × Int) => ref12_within.p0 k x.1 x.2.1 x.2.2⟩]
def fs (k : Nat) : FS := ⟨[(.int .u8), .str], [.bool], fun (x : Int × ByteArray) => ref12_within.f k x.1 x.2⟩
theorem ok : FnO Tryd.prog 83 17 Tryd.f83 2 := okF _ (by kernel_rfl) (by kernel_rfl)
theorem c (k : Nat) : Contract Tryd.prog 83 (fs k) :=
  fnS [(.int .u8), .str] [.bool] ptL fns0 fgs0 fws0 (fun k (x : Int × ByteArray) => ref12_within.f k x.1 x.2) ok ⟨⟨rfl, fun _ => rfl, fun k x => by kernel_rfl⟩, trivial⟩ (fun k x => by kernel_rfl) (fun _ => ⟨trivial, trivial, trivial⟩) k
end ref12_within

namespace ref12_symbolByte
def ptL : List (Pt (TD [.bool])) := []
def fns : Nat → List (FuncId × FS) := fun k => [(82, ref12_letter.fs k), (61, ref12_digit.fs k), (83, ref12_within.fs k)]
def fs (k : Nat) : FS := ⟨[(.int .u8)], [.bool], fun (x : Int) => ref12_symbolByte.f k x⟩
theorem ok : FnO Tryd.prog 63 13 Tryd.f63 1 := okF _ (by kernel_rfl) (by kernel_rfl)
theorem c (k : Nat) : Contract Tryd.prog 63 (fs k) :=
  fnS [(.int .u8)] [.bool] ptL fns fgs0 fws0 (fun k (x : Int) => ref12_symbolByte.f k x) ok trivial (fun k x => by kernel_rfl) (fun k => ⟨⟨ref12_letter.c k, ref12_digit.c k, ref12_within.c k, trivial⟩, trivial, trivial⟩) k
end ref12_symbolByte

namespace ref12_symbolEnd
def s0 : PSig := ⟨0, [], [(0, .val .str), (1, .val (.int .i64))]⟩
def s7 : PSig := ⟨0, [], [(1, .val (.int .i64))]⟩
def ptL : List (Pt (TD [(.int .i64)])) := [⟨0, s0, fun k (x : ByteArray × Int) => ref12_symbolEnd.p0 k x.1 x.2⟩, ⟨7, s7, fun k (x : Int) => ref12_symbolEnd.p7 k x⟩]
def fns : Nat → List (FuncId × FS) := fun k => [(63, ref12_symbolByte.fs k)]
def fs (k : Nat) : FS := ⟨[.str, (.int .i64)], [(.int .i64)], fun (x : ByteArray × Int) => ref12_symbolEnd.f k x.1 x.2⟩
theorem ok : FnO Tryd.prog 64 18 Tryd.f64 2 := okF _ (by kernel_rfl) (by kernel_rfl)
theorem c (k : Nat) : Contract Tryd.prog 64 (fs k) :=
  fnS [.str, (.int .i64)] [(.int .i64)] ptL fns fgs0 fws0 (fun k (x : ByteArray × Int) => ref12_symbolEnd.f k x.1 x.2) ok ⟨⟨rfl, fun _ => rfl, fun k x => by kernel_rfl⟩, ⟨rfl, fun _ => rfl, fun k x => by kernel_rfl⟩, trivial⟩ (fun k x => by kernel_rfl) (fun k => ⟨⟨ref12_symbolByte.c k, trivial⟩, trivial, trivial⟩) k
end ref12_symbolEnd

namespace ref12_keyword
def s7 : PSig := ⟨0, [(87, tSE, true)], [(0, .val .str), (1, .val (.int .i64)), (2, .val .bool), (6, .ptr 0 [])]⟩
def s9 : PSig := ⟨0, [(87, tSE, true)], [(1, .val (.int .i64)), (6, .ptr 0 [])]⟩
def ptL : List (Pt (TD [tSE])) := [⟨7, s7, fun k (x : SEd × ByteArray × Int × Bool) => ref12_keyword.p7 k x.1 x.2.1 x.2.2.1 x.2.2.2⟩, ⟨9, s9, fun k (x : SEd × Int) => ref12_keyword.p9 k x.1 x.2⟩]
def fns : Nat → List (FuncId × FS) := fun k => [(66, ref12_bad.fs k), (63, ref12_symbolByte.fs k), (61, ref12_digit.fs k), (64, ref12_symbolEnd.fs k), (65, ref12_unless.fs k)]
def fs (k : Nat) : FS := ⟨[.str, (.int .i64), .bool], [tSE], fun (x : ByteArray × Int × Bool) => ref12_keyword.f k x.1 x.2.1 x.2.2⟩
theorem ok : FnO Tryd.prog 59 56 Tryd.f59 3 := okF _ (by kernel_rfl) (by kernel_rfl)
theorem c (k : Nat) : Contract Tryd.prog 59 (fs k) :=
  fnS [.str, (.int .i64), .bool] [tSE] ptL fns fgs0 fws0 (fun k (x : ByteArray × Int × Bool) => ref12_keyword.f k x.1 x.2.1 x.2.2) ok ⟨⟨rfl, fun _ => rfl, fun k x => by kernel_rfl⟩, ⟨rfl, fun _ => rfl, fun k x => by kernel_rfl⟩, trivial⟩ (fun k x => by kernel_rfl) (fun k => ⟨⟨ref12_bad.c k, ref12_symbolByte.c k, ref12_digit.c k, ref12_symbolEnd.c k, ref12_unless.c k, trivial⟩, trivial, trivial⟩) k
end ref12_keyword

namespace ref12_digitsEnd
def s0 : PSig := ⟨0, [], [(0, .val .str), (1, .val (.int .i64)), (2, .val (.int .u8))]⟩
def s9 : PSig := ⟨0, [], [(0, .val .str), (1, .val (.int .i64)), (2, .val (.int .u8)), (7, .val (.int .u8)), (8, .val .bool)]⟩
def s15 : PSig := ⟨0, [], [(0, .val .str), (1, .val (.int .i64)), (2, .val (.int .u8)), (8, .val .bool), (9, .val .bool)]⟩
def s19 : PSig := ⟨0, [], [(0, .val .str), (1, .val (.int .i64)), (2, .val (.int .u8)), (9, .val .bool)]⟩
def ptL : List (Pt (TD [(.int .i64)])) := [⟨0, s0, fun k (x : ByteArray × Int × Int) => ref12_digitsEnd.p0 k x.1 x.2.1 x.2.2⟩, ⟨9, s9, fun k (x : ByteArray × Int × Int × Int × Bool) => ref12_digitsEnd.p9 k x.1 x.2.1 x.2.2.1 x.2.2.2.1 x.2.2.2.2⟩, ⟨15, s15, fun k (x : ByteArray × Int × Int × Bool × Bool) => ref12_digitsEnd.p15 k x.1 x.2.1 x.2.2.1 x.2.2.2.1 x.2.2.2.2⟩, ⟨19, s19, fun k (x : ByteArray × Int × Int × Bool) => ref12_digitsEnd.p19 k x.1 x.2.1 x.2.2.1 x.2.2.2⟩]
def fns : Nat → List (FuncId × FS) := fun k => [(61, ref12_digit.fs k)]
def fs (k : Nat) : FS := ⟨[.str, (.int .i64), (.int .u8)], [(.int .i64)], fun (x : ByteArray × Int × Int) => ref12_digitsEnd.f k x.1 x.2.1 x.2.2⟩
theorem ok : FnO Tryd.prog 81 53 Tryd.f81 3 := okF _ (by kernel_rfl) (by kernel_rfl)
theorem c (k : Nat) : Contract Tryd.prog 81 (fs k) :=
  fnS [.str, (.int .i64), (.int .u8)] [(.int .i64)] ptL fns fgs0 fws0 (fun k (x : ByteArray × Int × Int) => ref12_digitsEnd.f k x.1 x.2.1 x.2.2) ok ⟨⟨rfl, fun _ => rfl, fun k x => by kernel_rfl⟩, ⟨rfl, fun _ => rfl, fun k x => by kernel_rfl⟩, ⟨rfl, fun _ => rfl, fun k x => by kernel_rfl⟩, ⟨rfl, fun _ => rfl, fun k x => by kernel_rfl⟩, trivial⟩ (fun k x => by kernel_rfl) (fun k => ⟨⟨ref12_digit.c k, trivial⟩, trivial, trivial⟩) k
end ref12_digitsEnd

namespace ref12_sharp
def s7 : PSig := ⟨0, [(87, tSE, true)], [(0, .val .str), (1, .val (.int .i64)), (2, .val .bool), (6, .ptr 0 [])]⟩
def s9 : PSig := ⟨0, [(87, tSE, true)], [(1, .val (.int .i64)), (6, .ptr 0 [])]⟩
def s11 : PSig := ⟨0, [(87, tSE, true)], [(0, .val .str), (1, .val (.int .i64)), (2, .val .bool), (6, .ptr 0 [])]⟩
def s17 : PSig := ⟨0, [(87, tSE, true)], [(0, .val .str), (1, .val (.int .i64)), (6, .ptr 0 []), (7, .val (.int .i64))]⟩
def s19 : PSig := ⟨0, [(87, tSE, true)], [(1, .val (.int .i64)), (6, .ptr 0 [])]⟩
def s21 : PSig := ⟨0, [(87, tSE, true)], [(0, .val .str), (1, .val (.int .i64)), (6, .ptr 0 []), (7, .val (.int .i64))]⟩
def s27 : PSig := ⟨0, [(87, tSE, true)], [(0, .val .str), (1, .val (.int .i64)), (6, .ptr 0 []), (7, .val (.int .i64)), (8, .val (.int .i64))]⟩
def ptL : List (Pt (TD [tSE])) := [⟨7, s7, fun k (x : SEd × ByteArray × Int × Bool) => ref12_sharp.p7 k x.1 x.2.1 x.2.2.1 x.2.2.2⟩, ⟨9, s9, fun k (x : SEd × Int) => ref12_sharp.p9 k x.1 x.2⟩, ⟨11, s11, fun k (x : SEd × ByteArray × Int × Bool) => ref12_sharp.p11 k x.1 x.2.1 x.2.2.1 x.2.2.2⟩, ⟨17, s17, fun k (x : SEd × ByteArray × Int × Int) => ref12_sharp.p17 k x.1 x.2.1 x.2.2.1 x.2.2.2⟩, ⟨19, s19, fun k (x : SEd × Int) => ref12_sharp.p19 k x.1 x.2⟩, ⟨21, s21, fun k (x : SEd × ByteArray × Int × Int) => ref12_sharp.p21 k x.1 x.2.1 x.2.2.1 x.2.2.2⟩, ⟨27, s27, fun k (x : SEd × ByteArray × Int × Int × Int) => ref12_sharp.p27 k x.1 x.2.1 x.2.2.1 x.2.2.2.1 x.2.2.2.2⟩]
def fns : Nat → List (FuncId × FS) := fun k => [(66, ref12_bad.fs k), (81, ref12_digitsEnd.fs k), (63, ref12_symbolByte.fs k)]
def fs (k : Nat) : FS := ⟨[.str, (.int .i64), .bool], [tSE], fun (x : ByteArray × Int × Bool) => ref12_sharp.f k x.1 x.2.1 x.2.2⟩
theorem ok : FnO Tryd.prog 60 88 Tryd.f60 3 := okF _ (by kernel_rfl) (by kernel_rfl)
theorem c (k : Nat) : Contract Tryd.prog 60 (fs k) :=
  fnS [.str, (.int .i64), .bool] [tSE] ptL fns fgs0 fws0 (fun k (x : ByteArray × Int × Bool) => ref12_sharp.f k x.1 x.2.1 x.2.2) ok ⟨⟨rfl, fun _ => rfl, fun k x => by kernel_rfl⟩, ⟨rfl, fun _ => rfl, fun k x => by kernel_rfl⟩, ⟨rfl, fun _ => rfl, fun k x => by kernel_rfl⟩, ⟨rfl, fun _ => rfl, fun k x => by kernel_rfl⟩, ⟨rfl, fun _ => rfl, fun k x => by kernel_rfl⟩, ⟨rfl, fun _ => rfl, fun k x => by kernel_rfl⟩, ⟨rfl, fun _ => rfl, fun k x => by kernel_rfl⟩, trivial⟩ (fun k x => by kernel_rfl) (fun k => ⟨⟨ref12_bad.c k, ref12_digitsEnd.c k, ref12_symbolByte.c k, trivial⟩, trivial, trivial⟩) k
end ref12_sharp

namespace ref12_number
def s9 : PSig := ⟨0, [(87, tSE, true)], [(0, .val .str), (1, .val (.int .i64)), (2, .val .bool), (6, .ptr 0 []), (7, .val (.int .i64))]⟩
def s19 : PSig := ⟨0, [(87, tSE, true)], [(0, .val .str), (1, .val (.int .i64)), (2, .val .bool), (6, .ptr 0 []), (7, .val (.int .i64)), (8, .val (.int .i64))]⟩
def s27 : PSig := ⟨0, [(87, tSE, true)], [(0, .val .str), (1, .val (.int .i64)), (2, .val .bool), (6, .ptr 0 []), (7, .val (.int .i64)), (8, .val (.int .i64))]⟩
def s31 : PSig := ⟨0, [(87, tSE, true)], [(0, .val .str), (1, .val (.int .i64)), (2, .val .bool), (6, .ptr 0 []), (7, .val (.int .i64)), (8, .val (.int .i64))]⟩
def ptL : List (Pt (TD [tSE])) := [⟨9, s9, fun k (x : SEd × ByteArray × Int × Bool × Int) => ref12_number.p9 k x.1 x.2.1 x.2.2.1 x.2.2.2.1 x.2.2.2.2⟩, ⟨19, s19, fun k (x : SEd × ByteArray × Int × Bool × Int × Int) => ref12_number.p19 k x.1 x.2.1 x.2.2.1 x.2.2.2.1 x.2.2.2.2.1 x.2.2.2.2.2⟩, ⟨27, s27, fun k (x : SEd × ByteArray × Int × Bool × Int × Int) => ref12_number.p27 k x.1 x.2.1 x.2.2.1 x.2.2.2.1 x.2.2.2.2.1 x.2.2.2.2.2⟩, ⟨31, s31, fun k (x : SEd × ByteArray × Int × Bool × Int × Int) => ref12_number.p31 k x.1 x.2.1 x.2.2.1 x.2.2.2.1 x.2.2.2.2.1 x.2.2.2.2.2⟩]
def fns : Nat → List (FuncId × FS) := fun k => [(81, ref12_digitsEnd.fs k), (66, ref12_bad.fs k), (63, ref12_symbolByte.fs k), (65, ref12_unless.fs k)]
def fs (k : Nat) : FS := ⟨[.str, (.int .i64), .bool], [tSE], fun (x : ByteArray × Int × Bool) => ref12_number.f k x.1 x.2.1 x.2.2⟩
theorem ok : FnO Tryd.prog 62 80 Tryd.f62 3 := okF _ (by kernel_rfl) (by kernel_rfl)
theorem c (k : Nat) : Contract Tryd.prog 62 (fs k) :=
  fnS [.str, (.int .i64), .bool] [tSE] ptL fns fgs0 fws0 (fun k (x : ByteArray × Int × Bool) => ref12_number.f k x.1 x.2.1 x.2.2) ok ⟨⟨rfl, fun _ => rfl, fun k x => by kernel_rfl⟩, ⟨rfl, fun _ => rfl, fun k x => by kernel_rfl⟩, ⟨rfl, fun _ => rfl, fun k x => by kernel_rfl⟩, ⟨rfl, fun _ => rfl, fun k x => by kernel_rfl⟩, trivial⟩ (fun k x => by kernel_rfl) (fun k => ⟨⟨ref12_digitsEnd.c k, ref12_bad.c k, ref12_symbolByte.c k, ref12_unless.c k, trivial⟩, trivial, trivial⟩) k
end ref12_number

namespace ref12_look
def ptL : List (Pt (TD [tSE])) := []
def fns : Nat → List (FuncId × FS) := fun k => [(57, ref12_quoted.fs k), (58, ref12_barred.fs k), (59, ref12_keyword.fs k), (60, ref12_sharp.fs k), (61, ref12_digit.fs k), (62, ref12_number.fs k), (63, ref12_symbolByte.fs k), (64, ref12_symbolEnd.fs k), (65, ref12_unless.fs k), (66, ref12_bad.fs k)]
def fs (k : Nat) : FS := ⟨[.str, (.int .i64), .bool], [tSE], fun (x : ByteArray × Int × Bool) => ref12_look.f k x.1 x.2.1 x.2.2⟩
theorem ok : FnO Tryd.prog 41 78 Tryd.f41 3 := okF _ (by kernel_rfl) (by kernel_rfl)
theorem c (k : Nat) : Contract Tryd.prog 41 (fs k) :=
  fnS [.str, (.int .i64), .bool] [tSE] ptL fns fgs0 fws0 (fun k (x : ByteArray × Int × Bool) => ref12_look.f k x.1 x.2.1 x.2.2) ok trivial (fun k x => by kernel_rfl) (fun k => ⟨⟨ref12_quoted.c k, ref12_barred.c k, ref12_keyword.c k, ref12_sharp.c k, ref12_digit.c k, ref12_number.c k, ref12_symbolByte.c k, ref12_symbolEnd.c k, ref12_unless.c k, ref12_bad.c k, trivial⟩, trivial, trivial⟩) k
end ref12_look

namespace ref12_Read
def s0 : PSig := ⟨0, [(32, tokT, false)], [(0, .val .str), (1, .val .bool), (7, .own 0), (8, .val (.int .i64)), (9, .val (.int .i64)), (10, .val (.int .i64)), (11, .val (.int .i64))]⟩
def s4 : PSig := ⟨0, [(32, tokT, false), (87, tSE, true)], [(0, .val .str), (1, .val .bool), (7, .own 0), (8, .val (.int .i64)), (9, .val (.int .i64)), (10, .val (.int .i64)), (11, .val (.int .i64)), (12, .ptr 1 [])]⟩
def ptL : List (Pt (TD [(.list tokT), (.int .i64), (.int .i64)])) := [⟨0, s0, fun k (x : (List TokD) × ByteArray × Bool × Int × Int × Int × Int) => ref12_Read.p0 k x.1 x.2.1 x.2.2.1 x.2.2.2.1 x.2.2.2.2.1 x.2.2.2.2.2.1 x.2.2.2.2.2.2⟩, ⟨4, s4, fun k (x : (List TokD) × SEd × ByteArray × Bool × Int × Int × Int × Int) => ref12_Read.p4 k x.1 x.2.1 x.2.2.1 x.2.2.2.1 x.2.2.2.2.1 x.2.2.2.2.2.1 x.2.2.2.2.2.2.1 x.2.2.2.2.2.2.2⟩]
def fns : Nat → List (FuncId × FS) := fun k => [(40, ref12_gap.fs k), (41, ref12_look.fs k)]
def fs (k : Nat) : FS := ⟨[.str, .bool], [(.list tokT), (.int .i64), (.int .i64)], fun (x : ByteArray × Bool) => ref12_Read.f k x.1 x.2⟩
theorem ok : FnO Tryd.prog 31 71 Tryd.f31 2 := okF _ (by kernel_rfl) (by kernel_rfl)
theorem c (k : Nat) : Contract Tryd.prog 31 (fs k) :=
  fnS [.str, .bool] [(.list tokT), (.int .i64), (.int .i64)] ptL fns fgs0 fws0 (fun k (x : ByteArray × Bool) => ref12_Read.f k x.1 x.2) ok ⟨⟨rfl, fun _ => rfl, fun k x => by kernel_rfl⟩, ⟨rfl, fun _ => rfl, fun k x => by kernel_rfl⟩, trivial⟩ (fun k x => by kernel_rfl) (fun k => ⟨⟨ref12_gap.c k, ref12_look.c k, trivial⟩, trivial, trivial⟩) k
end ref12_Read

namespace ref13_Build
theorem c (k : Nat) : Contract Tryd.prog 32 ⟨[.list tokT], [.st (.pair (.list nodeT) (.pair (.list nodeT) (.pair (.int .i64) (.int .i64))))], fun (x : List TokD) => ref13_Build.f k x⟩ := build_contract
end ref13_Build

namespace ref13_Whole
def s17 : PSig := ⟨0, [(45, tBt, true), (45, tBt, true)], [(4, .ptr 0 []), (8, .ptr 1 [])]⟩
def ptL : List (Pt (TD [tBt])) := [⟨17, s17, fun k (x : (LNd × LNd × Int × Int) × (LNd × LNd × Int × Int)) => ref13_Whole.p17 k x.1 x.2⟩]
def fns : Nat → List (FuncId × FS) := fun k => [(31, ref12_Read.fs k), (32, ⟨[(.list tokT)], [tBt], fun (x : (List TokD)) => ref13_Build.f k x⟩)]
def fs (k : Nat) : FS := ⟨[.str, .bool], [tBt], fun (x : ByteArray × Bool) => ref13_Whole.f k x.1 x.2⟩
theorem ok : FnO Tryd.prog 18 46 Tryd.f18 2 := okF _ (by kernel_rfl) (by kernel_rfl)
theorem c (k : Nat) : Contract Tryd.prog 18 (fs k) :=
  fnS [.str, .bool] [tBt] ptL fns fgs0 fws0 (fun k (x : ByteArray × Bool) => ref13_Whole.f k x.1 x.2) ok ⟨⟨rfl, fun _ => rfl, fun k x => by kernel_rfl⟩, trivial⟩ (fun k x => by kernel_rfl) (fun k => ⟨⟨ref12_Read.c k, ref13_Build.c k, trivial⟩, trivial, trivial⟩) k
end ref13_Whole

namespace ref13_Read
def ptL : List (Pt (TD [(.list nodeT), (.int .i64), (.int .i64)])) := []
def fns : Nat → List (FuncId × FS) := fun k => [(18, ref13_Whole.fs k)]
def fs (k : Nat) : FS := ⟨[.str], [(.list nodeT), (.int .i64), (.int .i64)], fun (x : ByteArray) => ref13_Read.f k x⟩
theorem ok : FnO Tryd.prog 8 14 Tryd.f8 1 := okF _ (by kernel_rfl) (by kernel_rfl)
theorem c (k : Nat) : Contract Tryd.prog 8 (fs k) :=
  fnS [.str] [(.list nodeT), (.int .i64), (.int .i64)] ptL fns fgs0 fws0 (fun k (x : ByteArray) => ref13_Read.f k x) ok trivial (fun k x => by kernel_rfl) (fun k => ⟨⟨ref13_Whole.c k, trivial⟩, trivial, trivial⟩) k
end ref13_Read

namespace sexpr_list
def ptL : List (Pt (TD [.bool])) := []
def fs (k : Nat) : FS := ⟨[nodeT], [.bool], fun (x : NTd) => sexpr_list.f k x⟩
theorem ok : FnO Tryd.prog 26 7 Tryd.f26 1 := okF _ (by kernel_rfl) (by kernel_rfl)
theorem c (k : Nat) : Contract Tryd.prog 26 (fs k) :=
  fnS [nodeT] [.bool] ptL fns0 fgs0 fws0 (fun k (x : NTd) => sexpr_list.f k x) ok trivial (fun k x => by kernel_rfl) (fun _ => ⟨trivial, trivial, trivial⟩) k
end sexpr_list

namespace sexpr_Size
def s0 : PSig := ⟨0, [], [(3, .val (.int .i64)), (10, .val (.list nodeT)), (11, .val (.int .i64)), (12, .val (.int .i64))]⟩
def ptL : List (Pt (TD [(.int .i64)])) := [⟨0, s0, fun k (x : Int × LNd × Int × Int) => sexpr_Size.p0 k x.1 x.2.1 x.2.2.1 x.2.2.2⟩]
def fns : Nat → List (FuncId × FS) := fun k => [(26, sexpr_list.fs k), (19, ⟨[nodeT], [(.int .i64)], fun (x : NTd) => sexpr_Size.f k x⟩)]
def fs (k : Nat) : FS := ⟨[nodeT], [(.int .i64)], fun (x : NTd) => sexpr_Size.f k x⟩
theorem ok : FnO Tryd.prog 19 22 Tryd.f19 1 := okF _ (by kernel_rfl) (by kernel_rfl)
theorem c (k : Nat) : Contract Tryd.prog 19 (fs k) := by
  induction k using Nat.strongRecOn with
  | _ k ih =>
    exact fn_sound_rec (ps := [nodeT]) (rs := [(.int .i64)]) (pts := ptL) (fns := fns) (fgs := fgs0) (fws := fws0) (tys := tyTab) (main := fun k (x : NTd) => sexpr_Size.f k x) ok mix tyOk ⟨⟨rfl, fun _ => rfl, fun k x => by kernel_rfl⟩, trivial⟩ (fun _ => rfl) (fun k x => by kernel_rfl) k (fun k hk => ⟨⟨sexpr_list.c k, ih k hk, trivial⟩, trivial, trivial⟩)
end sexpr_Size

namespace law13_lives
def ptL : List (Pt (TD [.bool])) := []
def fns : Nat → List (FuncId × FS) := fun k => [(7, ⟨[.str], [(.list nodeT), (.int .i64), (.int .i64)], fun (x : ByteArray) => sexpr_Read.f k x⟩), (19, sexpr_Size.fs k)]
def fs (k : Nat) : FS := ⟨[], [.bool], fun (x : Unit) => law13_lives.f k x⟩
theorem ok : FnO Tryd.prog 9 27 Tryd.f9 0 := okF _ (by kernel_rfl) (by kernel_rfl)
theorem c (k : Nat) : Contract Tryd.prog 9 (fs k) :=
  fnS [] [.bool] ptL fns fgs0 fws0 (fun k (x : Unit) => law13_lives.f k x) ok trivial (fun k x => by kernel_rfl) (fun k => ⟨⟨sexpr_Read.c k, sexpr_Size.c k, trivial⟩, trivial, trivial⟩) k
end law13_lives

namespace ref13_Alike
def s5 : PSig := ⟨0, [], []⟩
def s0 : PSig := ⟨0, [(34, nodeT, true), (34, nodeT, true)], [(2, .ptr 0 []), (3, .ptr 1 []), (5, .val (.int .i64))]⟩
def ptL : List (Pt (TD [.bool])) := [⟨5, s5, fun k (x : Unit) => ref13_Alike.p5 k x⟩, ⟨0, s0, fun k (x : NTd × NTd × Int) => ref13_Alike.p0 k x.1 x.2.1 x.2.2⟩]
def fns : Nat → List (FuncId × FS) := fun k => [(20, ⟨[nodeT, nodeT], [.bool], fun (x : NTd × NTd) => ref13_Alike.f k x.1 x.2⟩)]
def fs (k : Nat) : FS := ⟨[nodeT, nodeT], [.bool], fun (x : NTd × NTd) => ref13_Alike.f k x.1 x.2⟩
theorem ok : FnO Tryd.prog 20 39 Tryd.f20 2 := okF _ (by kernel_rfl) (by kernel_rfl)
theorem c (k : Nat) : Contract Tryd.prog 20 (fs k) := by
  induction k using Nat.strongRecOn with
  | _ k ih =>
    exact fn_sound_rec (ps := [nodeT, nodeT]) (rs := [.bool]) (pts := ptL) (fns := fns) (fgs := fgs0) (fws := fws0) (tys := tyTab) (main := fun k (x : NTd × NTd) => ref13_Alike.f k x.1 x.2) ok mix tyOk ⟨⟨rfl, fun _ => rfl, fun k x => by kernel_rfl⟩, ⟨rfl, fun _ => rfl, fun k x => by kernel_rfl⟩, trivial⟩ (fun _ => rfl) (fun k x => by kernel_rfl) k (fun k hk => ⟨⟨ih k hk, trivial⟩, trivial, trivial⟩)
end ref13_Alike

namespace law13_alike
def s0 : PSig := ⟨0, [], [(0, .val (.list nodeT)), (1, .val (.list nodeT)), (5, .val (.int .i64))]⟩
def ptL : List (Pt (TD [.bool])) := [⟨0, s0, fun k (x : LNd × LNd × Int) => law13_alike.p0 k x.1 x.2.1 x.2.2⟩]
def fns : Nat → List (FuncId × FS) := fun k => [(20, ref13_Alike.fs k)]
def fs (k : Nat) : FS := ⟨[(.list nodeT), (.list nodeT)], [.bool], fun (x : LNd × LNd) => law13_alike.f k x.1 x.2⟩
theorem ok : FnO Tryd.prog 10 27 Tryd.f10 2 := okF _ (by kernel_rfl) (by kernel_rfl)
theorem c (k : Nat) : Contract Tryd.prog 10 (fs k) :=
  fnS [(.list nodeT), (.list nodeT)] [.bool] ptL fns fgs0 fws0 (fun k (x : LNd × LNd) => law13_alike.f k x.1 x.2) ok ⟨⟨rfl, fun _ => rfl, fun k x => by kernel_rfl⟩, trivial⟩ (fun k x => by kernel_rfl) (fun k => ⟨⟨ref13_Alike.c k, trivial⟩, trivial, trivial⟩) k
end law13_alike

namespace law13_SexprDeep
def s0 : PSig := ⟨0, [], [(0, .val (.int .u16)), (1, .val .str), (5, .val .str), (6, .val (.int .i64))]⟩
def ptL : List (Pt (TD [.bool])) := [⟨0, s0, fun k (x : Int × ByteArray × ByteArray × Int) => law13_SexprDeep.p0 k x.1 x.2.1 x.2.2.1 x.2.2.2⟩]
def fns : Nat → List (FuncId × FS) := fun k => [(7, ⟨[.str], [(.list nodeT), (.int .i64), (.int .i64)], fun (x : ByteArray) => sexpr_Read.f k x⟩), (8, ref13_Read.fs k), (9, law13_lives.fs k), (10, law13_alike.fs k)]
def fs (k : Nat) : FS := ⟨[(.int .u16), .str], [.bool], fun (x : Int × ByteArray) => law13_SexprDeep.f k x.1 x.2⟩
theorem ok : FnO Tryd.prog 4 53 Tryd.f4 2 := okF _ (by kernel_rfl) (by kernel_rfl)
theorem c (k : Nat) : Contract Tryd.prog 4 (fs k) :=
  fnS [(.int .u16), .str] [.bool] ptL fns fgs0 fws0 (fun k (x : Int × ByteArray) => law13_SexprDeep.f k x.1 x.2) ok ⟨⟨rfl, fun _ => rfl, fun k x => by kernel_rfl⟩, trivial⟩ (fun k x => by kernel_rfl) (fun k => ⟨⟨sexpr_Read.c k, ref13_Read.c k, law13_lives.c k, law13_alike.c k, trivial⟩, trivial, trivial⟩) k
end law13_SexprDeep
end Go.Proofs.YtnjpocbcfkfphaaDoor
