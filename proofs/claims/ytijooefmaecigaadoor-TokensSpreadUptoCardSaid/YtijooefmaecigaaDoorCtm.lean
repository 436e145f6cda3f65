/- Contracts, printed by fgen.py. -/
import Derived.Test.YtijooefmaecigaaDoorPlm
import Derived.Test.YtijooefmaecigaaDoorProg
import Derived.Test.YtijooefmaecigaaDoorRam
namespace Go.Proofs.YtijooefmaecigaaDoor
open Go.FK
theorem mix : Tryd.prog.follows .mixedOrders = true ∧ ArrsOk Tryd.prog := ⟨by kernel_rfl, arrsB_ok (by kernel_rfl)⟩
def tyTab : List (TypeId × TI) := [(3, ⟨(.int .i64), 0, 0⟩), (4, ⟨.bool, 0, 0⟩), (5, ⟨(.int .u8), 0, 0⟩), (9, ⟨.str, 0, 0⟩), (21, ⟨(.int .i32), 0, 0⟩), (22, ⟨(.list (.st (.pair (.int .i64) (.pair .str (.pair (.int .i64) (.pair (.int .i64) (.pair (.int .i64) (.int .i64)))))))), 25, 56⟩), (23, ⟨(.int .i64), 0, 0⟩), (25, ⟨(.st (.pair (.int .i64) (.pair .str (.pair (.int .i64) (.pair (.int .i64) (.pair (.int .i64) (.int .i64))))))), 0, 0⟩), (46, ⟨(.st (.pair (.int .i64) (.pair .str (.pair .bool (.pair (.st (.pair (.int .i64) (.pair .str (.pair (.int .i64) (.pair (.int .i64) (.pair (.int .i64) (.int .i64))))))) (.int .i64)))))), 0, 0⟩), (59, ⟨(.st (.pair (.int .i64) (.pair (.int .i64) (.pair .str (.pair .bool (.int .i64)))))), 0, 0⟩)]
theorem tyOk : tysB Tryd.prog tyTab = true := by kernel_rfl

abbrev tL : Ty := .list (.int .u32)
abbrev tZ : Ty := .st (.pair .bool (.list (.int .u32)))
abbrev tQ : Ty := .st (.pair (.st (.pair .bool (.list (.int .u32)))) (.list (.int .u32)))
def fws0 : Nat → List (FuncId × FW) := fun _ => []
def fns0 : Nat → List (FuncId × FS) := fun _ => []
def fgs0 : Nat → List (FuncId × FG) := fun _ => []
abbrev FnO (P : Program) (f : FuncId) (n : Nat) (fn : Func) (np : Nat) : Prop := FnOk P f n fn.results.toList (fn.body.getD .skip) np
theorem okF {P : Program} {f : FuncId} {n np : Nat} (fn : Func) (h : P.funcs[f]? = some fn) (hb : (fn.body.isSome && (fn.ntmps == n && (!(fn.name == "runtime.NumGoroutine") && (Go.FK.distinct (ptsOf 0 (fn.body.getD .skip)) && Nat.ble np n)))) = true) : FnO P f n fn np := by
  simp only [Bool.and_eq_true, Bool.not_eq_true', beq_iff_eq, Nat.ble_eq] at hb
  obtain ⟨h1, h2, h3, h4, h5⟩ := hb
  refine ⟨⟨fn, h, ?_, h2, rfl, h3⟩, h4, h5⟩
  cases hc : fn.body with
  | none => rw [hc] at h1; cases h1
  | some c => rfl
theorem fnS (ps rs : List Ty) (pts : List (Pt (TD rs))) (fns : Nat → List (FuncId × FS)) (fgs : Nat → List (FuncId × FG)) (fws : Nat → List (FuncId × FW)) (main : Nat → TD ps → Option (TD rs)) {f : FuncId} {n : Nat} {rv : List ResultVar} {c : Code} (hf : FnOk Tryd.prog f n rv c ps.length) (hpt : PtsOk (mkE tyTab fns fgs fws pts) 0 n (endK (lookT tyTab) rv rs) c pts) (hmain : ∀ k x, fnK (mkE tyTab fns fgs fws pts k) n rv c (encT ps x) = main k x) (hall : ∀ k, AllK Tryd.prog (fns k) (fgs k) (fws k)) (k : Nat) : Contract Tryd.prog f ⟨ps, rs, main k⟩ := fn_sound hf mix tyOk hpt hmain hall k

namespace tokens_begin
def ptL : List (Pt (TD [(.st (.pair (.int .i64) (.pair .str (.pair (.int .i64) (.pair (.int .i64) (.pair (.int .i64) (.int .i64)))))))])) := []
def fs (k : Nat) : FS := ⟨[], [(.st (.pair (.int .i64) (.pair .str (.pair (.int .i64) (.pair (.int .i64) (.pair (.int .i64) (.int .i64)))))))], fun (x : Unit) => tokens_begin.f k x⟩
theorem ok : FnO Tryd.prog 21 2 Tryd.f21 0 := okF _ (by kernel_rfl) (by kernel_rfl)
theorem c (k : Nat) : Contract Tryd.prog 21 (fs k) :=
  fnS [] [(.st (.pair (.int .i64) (.pair .str (.pair (.int .i64) (.pair (.int .i64) (.pair (.int .i64) (.int .i64)))))))] ptL fns0 fgs0 fws0 (fun k (x : Unit) => tokens_begin.f k x) ok trivial (fun k x => by kernel_rfl) (fun _ => ⟨trivial, trivial, trivial⟩) k
end tokens_begin

namespace tokens_New
def ptL : List (Pt (TD [(.list (.st (.pair (.int .i64) (.pair .str (.pair .bool (.pair (.st (.pair (.int .i64) (.pair .str (.pair (.int .i64) (.pair (.int .i64) (.pair (.int .i64) (.int .i64))))))) (.int .i64)))))))])) := []
def fns : Nat → List (FuncId × FS) := fun k => [(21, tokens_begin.fs k)]
def fs (k : Nat) : FS := ⟨[], [(.list (.st (.pair (.int .i64) (.pair .str (.pair .bool (.pair (.st (.pair (.int .i64) (.pair .str (.pair (.int .i64) (.pair (.int .i64) (.pair (.int .i64) (.int .i64))))))) (.int .i64)))))))], fun (x : Unit) => tokens_New.f k x⟩
theorem ok : FnO Tryd.prog 12 4 Tryd.f12 0 := okF _ (by kernel_rfl) (by kernel_rfl)
def fw (k : Nat) : FW := ⟨[], 46, (.st (.pair (.int .i64) (.pair .str (.pair .bool (.pair (.st (.pair (.int .i64) (.pair .str (.pair (.int .i64) (.pair (.int .i64) (.pair (.int .i64) (.int .i64))))))) (.int .i64)))))), true, fun (x : Unit) => tokens_New.f k x⟩
def ptW : List (Pt (List (Ty.D (.st (.pair (.int .i64) (.pair .str (.pair .bool (.pair (.st (.pair (.int .i64) (.pair .str (.pair (.int .i64) (.pair (.int .i64) (.pair (.int .i64) (.int .i64))))))) (.int .i64))))))))) := []
theorem cw (k : Nat) : ContractW Tryd.prog 12 (fw k) :=
  fn_soundW (ps := []) (e := 46) (t := (.st (.pair (.int .i64) (.pair .str (.pair .bool (.pair (.st (.pair (.int .i64) (.pair .str (.pair (.int .i64) (.pair (.int .i64) (.pair (.int .i64) (.int .i64))))))) (.int .i64))))))) (bx := true) (pts := ptW) (fns := fns) (fgs := fgs0) (fws := fws0) (tys := tyTab) (main := fun k (x : Unit) => tokens_New.f k x) ok mix tyOk trivial (fun k x => by kernel_rfl) (fun k => ⟨⟨tokens_begin.c k, trivial⟩, trivial, trivial⟩) k
end tokens_New

namespace tokens_Scanner_answers
def s5 : PSig := ⟨1, [(46, (.st (.pair (.int .i64) (.pair .str (.pair .bool (.pair (.st (.pair (.int .i64) (.pair .str (.pair (.int .i64) (.pair (.int .i64) (.pair (.int .i64) (.int .i64))))))) (.int .i64)))))), true)], []⟩
def ptL : List (Pt (TD ([.obj 46 (.st (.pair (.int .i64) (.pair .str (.pair .bool (.pair (.st (.pair (.int .i64) (.pair .str (.pair (.int .i64) (.pair (.int .i64) (.pair (.int .i64) (.int .i64))))))) (.int .i64))))))].flatMap PK.outs ++ [(.int .i64), .bool]))) := [⟨5, s5, fun k (x : (Int × ByteArray × Bool × (Int × ByteArray × Int × Int × Int × Int) × Int)) => tokens_Scanner_answers.p5 k x⟩]
def fg (k : Nat) : FG := ⟨[.obj 46 (.st (.pair (.int .i64) (.pair .str (.pair .bool (.pair (.st (.pair (.int .i64) (.pair .str (.pair (.int .i64) (.pair (.int .i64) (.pair (.int .i64) (.int .i64))))))) (.int .i64))))))], [(.int .i64), .bool], none, fun (x : (Int × ByteArray × Bool × (Int × ByteArray × Int × Int × Int × Int) × Int)) => tokens_Scanner_answers.f k x⟩
theorem ok : FnO Tryd.prog 22 31 Tryd.f22 1 := okF _ (by kernel_rfl) (by kernel_rfl)
theorem c (k : Nat) : ContractG Tryd.prog 22 (fg k) :=
  fn_soundG (ps := [.obj 46 (.st (.pair (.int .i64) (.pair .str (.pair .bool (.pair (.st (.pair (.int .i64) (.pair .str (.pair (.int .i64) (.pair (.int .i64) (.pair (.int .i64) (.int .i64))))))) (.int .i64))))))]) (rs := [(.int .i64), .bool]) (pts := ptL) (fns := fns0) (fgs := fgs0) (fws := fws0) (tys := tyTab) (main := fun k (x : (Int × ByteArray × Bool × (Int × ByteArray × Int × Int × Int × Int) × Int)) => tokens_Scanner_answers.f k x) ok rfl mix tyOk ⟨⟨rfl, fun _ => rfl, fun k x => by kernel_rfl⟩, trivial⟩ (fun k x => by kernel_rfl) (fun _ => ⟨trivial, trivial, trivial⟩) k
end tokens_Scanner_answers

namespace tokens_blank
def ptL : List (Pt (TD [.bool])) := []
def fs (k : Nat) : FS := ⟨[(.int .u8)], [.bool], fun (x : Int) => tokens_blank.f k x⟩
theorem ok : FnO Tryd.prog 53 17 Tryd.f53 1 := okF _ (by kernel_rfl) (by kernel_rfl)
theorem c (k : Nat) : Contract Tryd.prog 53 (fs k) :=
  fnS [(.int .u8)] [.bool] ptL fns0 fgs0 fws0 (fun k (x : Int) => tokens_blank.f k x) ok trivial (fun k x => by kernel_rfl) (fun _ => ⟨trivial, trivial, trivial⟩) k
end tokens_blank

namespace tokens_Scanner_pass
def s0 : PSig := ⟨1, [(46, (.st (.pair (.int .i64) (.pair .str (.pair .bool (.pair (.st (.pair (.int .i64) (.pair .str (.pair (.int .i64) (.pair (.int .i64) (.pair (.int .i64) (.int .i64))))))) (.int .i64)))))), true)], [(0, .ptr 0 []), (1, .val (.int .i64)), (5, .val (.int .i64)), (6, .val (.int .i64))]⟩
def s15 : PSig := ⟨1, [(46, (.st (.pair (.int .i64) (.pair .str (.pair .bool (.pair (.st (.pair (.int .i64) (.pair .str (.pair (.int .i64) (.pair (.int .i64) (.pair (.int .i64) (.int .i64))))))) (.int .i64)))))), true)], [(0, .ptr 0 []), (1, .val (.int .i64)), (5, .val (.int .i64)), (6, .val (.int .i64))]⟩
def ptL : List (Pt (TD ([.obj 46 (.st (.pair (.int .i64) (.pair .str (.pair .bool (.pair (.st (.pair (.int .i64) (.pair .str (.pair (.int .i64) (.pair (.int .i64) (.pair (.int .i64) (.int .i64))))))) (.int .i64)))))), .val (.int .i64)].flatMap PK.outs ++ []))) := [⟨0, s0, fun k (x : (Int × ByteArray × Bool × (Int × ByteArray × Int × Int × Int × Int) × Int) × Int × Int × Int) => tokens_Scanner_pass.p0 k x.1 x.2.1 x.2.2.1 x.2.2.2⟩, ⟨15, s15, fun k (x : (Int × ByteArray × Bool × (Int × ByteArray × Int × Int × Int × Int) × Int) × Int × Int × Int) => tokens_Scanner_pass.p15 k x.1 x.2.1 x.2.2.1 x.2.2.2⟩]
def fg (k : Nat) : FG := ⟨[.obj 46 (.st (.pair (.int .i64) (.pair .str (.pair .bool (.pair (.st (.pair (.int .i64) (.pair .str (.pair (.int .i64) (.pair (.int .i64) (.pair (.int .i64) (.int .i64))))))) (.int .i64)))))), .val (.int .i64)], [], none, fun (x : (Int × ByteArray × Bool × (Int × ByteArray × Int × Int × Int × Int) × Int) × Int) => tokens_Scanner_pass.f k x.1 x.2⟩
theorem ok : FnO Tryd.prog 34 67 Tryd.f34 2 := okF _ (by kernel_rfl) (by kernel_rfl)
theorem c (k : Nat) : ContractG Tryd.prog 34 (fg k) :=
  fn_soundG (ps := [.obj 46 (.st (.pair (.int .i64) (.pair .str (.pair .bool (.pair (.st (.pair (.int .i64) (.pair .str (.pair (.int .i64) (.pair (.int .i64) (.pair (.int .i64) (.int .i64))))))) (.int .i64)))))), .val (.int .i64)]) (rs := []) (pts := ptL) (fns := fns0) (fgs := fgs0) (fws := fws0) (tys := tyTab) (main := fun k (x : (Int × ByteArray × Bool × (Int × ByteArray × Int × Int × Int × Int) × Int) × Int) => tokens_Scanner_pass.f k x.1 x.2) ok rfl mix tyOk ⟨⟨rfl, fun _ => rfl, fun k x => by kernel_rfl⟩, ⟨rfl, fun _ => rfl, fun k x => by kernel_rfl⟩, trivial⟩ (fun k x => by kernel_rfl) (fun _ => ⟨trivial, trivial, trivial⟩) k
end tokens_Scanner_pass

namespace tokens_Scanner_skip
def s0 : PSig := ⟨1, [(46, (.st (.pair (.int .i64) (.pair .str (.pair .bool (.pair (.st (.pair (.int .i64) (.pair .str (.pair (.int .i64) (.pair (.int .i64) (.pair (.int .i64) (.int .i64))))))) (.int .i64)))))), true)], [(0, .ptr 0 [])]⟩
def s17 : PSig := ⟨1, [(46, (.st (.pair (.int .i64) (.pair .str (.pair .bool (.pair (.st (.pair (.int .i64) (.pair .str (.pair (.int .i64) (.pair (.int .i64) (.pair (.int .i64) (.int .i64))))))) (.int .i64)))))), true)], [(0, .ptr 0 [])]⟩
def s7 : PSig := ⟨1, [(46, (.st (.pair (.int .i64) (.pair .str (.pair .bool (.pair (.st (.pair (.int .i64) (.pair .str (.pair (.int .i64) (.pair (.int .i64) (.pair (.int .i64) (.int .i64))))))) (.int .i64)))))), true)], [(0, .ptr 0 []), (2, .val (.int .u8))]⟩
def ptL : List (Pt (TD ([.obj 46 (.st (.pair (.int .i64) (.pair .str (.pair .bool (.pair (.st (.pair (.int .i64) (.pair .str (.pair (.int .i64) (.pair (.int .i64) (.pair (.int .i64) (.int .i64))))))) (.int .i64))))))].flatMap PK.outs ++ []))) := [⟨0, s0, fun k (x : (Int × ByteArray × Bool × (Int × ByteArray × Int × Int × Int × Int) × Int)) => tokens_Scanner_skip.p0 k x⟩, ⟨17, s17, fun k (x : (Int × ByteArray × Bool × (Int × ByteArray × Int × Int × Int × Int) × Int)) => tokens_Scanner_skip.p17 k x⟩, ⟨7, s7, fun k (x : (Int × ByteArray × Bool × (Int × ByteArray × Int × Int × Int × Int) × Int) × Int) => tokens_Scanner_skip.p7 k x.1 x.2⟩]
def fns : Nat → List (FuncId × FS) := fun k => [(53, tokens_blank.fs k)]
def fgs : Nat → List (FuncId × FG) := fun k => [(34, ⟨[.obj 46 (.st (.pair (.int .i64) (.pair .str (.pair .bool (.pair (.st (.pair (.int .i64) (.pair .str (.pair (.int .i64) (.pair (.int .i64) (.pair (.int .i64) (.int .i64))))))) (.int .i64)))))), .val (.int .i64)], [], none, fun (x : (Int × ByteArray × Bool × (Int × ByteArray × Int × Int × Int × Int) × Int) × Int) => tokens_Scanner_pass.f k x.1 x.2⟩)]
def fg (k : Nat) : FG := ⟨[.obj 46 (.st (.pair (.int .i64) (.pair .str (.pair .bool (.pair (.st (.pair (.int .i64) (.pair .str (.pair (.int .i64) (.pair (.int .i64) (.pair (.int .i64) (.int .i64))))))) (.int .i64))))))], [], none, fun (x : (Int × ByteArray × Bool × (Int × ByteArray × Int × Int × Int × Int) × Int)) => tokens_Scanner_skip.f k x⟩
theorem ok : FnO Tryd.prog 32 46 Tryd.f32 1 := okF _ (by kernel_rfl) (by kernel_rfl)
theorem c (k : Nat) : ContractG Tryd.prog 32 (fg k) :=
  fn_soundG (ps := [.obj 46 (.st (.pair (.int .i64) (.pair .str (.pair .bool (.pair (.st (.pair (.int .i64) (.pair .str (.pair (.int .i64) (.pair (.int .i64) (.pair (.int .i64) (.int .i64))))))) (.int .i64))))))]) (rs := []) (pts := ptL) (fns := fns) (fgs := fgs) (fws := fws0) (tys := tyTab) (main := fun k (x : (Int × ByteArray × Bool × (Int × ByteArray × Int × Int × Int × Int) × Int)) => tokens_Scanner_skip.f k x) ok rfl mix tyOk ⟨⟨rfl, fun _ => rfl, fun k x => by kernel_rfl⟩, ⟨rfl, fun _ => rfl, fun k x => by kernel_rfl⟩, ⟨rfl, fun _ => rfl, fun k x => by kernel_rfl⟩, trivial⟩ (fun k x => by kernel_rfl) (fun k => ⟨⟨tokens_blank.c k, trivial⟩, ⟨tokens_Scanner_pass.c k, trivial⟩, trivial⟩) k
end tokens_Scanner_skip

namespace tokens_quotable
def ptL : List (Pt (TD [.bool])) := []
def fs (k : Nat) : FS := ⟨[(.int .i32)], [.bool], fun (x : Int) => tokens_quotable.f k x⟩
theorem ok : FnO Tryd.prog 28 25 Tryd.f28 1 := okF _ (by kernel_rfl) (by kernel_rfl)
theorem c (k : Nat) : Contract Tryd.prog 28 (fs k) :=
  fnS [(.int .i32)] [.bool] ptL fns0 fgs0 fws0 (fun k (x : Int) => tokens_quotable.f k x) ok trivial (fun k x => by kernel_rfl) (fun _ => ⟨trivial, trivial, trivial⟩) k
end tokens_quotable

namespace tokens_bad
def ptL : List (Pt (TD [(.st (.pair (.int .i64) (.pair (.int .i64) (.pair .str (.pair .bool (.int .i64))))))])) := []
def fs (k : Nat) : FS := ⟨[(.int .i64)], [(.st (.pair (.int .i64) (.pair (.int .i64) (.pair .str (.pair .bool (.int .i64))))))], fun (x : Int) => tokens_bad.f k x⟩
theorem ok : FnO Tryd.prog 59 5 Tryd.f59 1 := okF _ (by kernel_rfl) (by kernel_rfl)
theorem c (k : Nat) : Contract Tryd.prog 59 (fs k) :=
  fnS [(.int .i64)] [(.st (.pair (.int .i64) (.pair (.int .i64) (.pair .str (.pair .bool (.int .i64))))))] ptL fns0 fgs0 fws0 (fun k (x : Int) => tokens_bad.f k x) ok trivial (fun k x => by kernel_rfl) (fun _ => ⟨trivial, trivial, trivial⟩) k
end tokens_bad

namespace tokens_bars
def s0 : PSig := ⟨0, [(59, (.st (.pair (.int .i64) (.pair (.int .i64) (.pair .str (.pair .bool (.int .i64)))))), true), (9, itT, true)], [(0, .val .str), (2, .ptr 0 []), (7, .ptr 1 [])]⟩
def s15 : PSig := ⟨0, [(59, (.st (.pair (.int .i64) (.pair (.int .i64) (.pair .str (.pair .bool (.int .i64)))))), true)], [(2, .ptr 0 []), (3, .val (.int .i64))]⟩
def ptL : List (Pt (TD [(.st (.pair (.int .i64) (.pair (.int .i64) (.pair .str (.pair .bool (.int .i64))))))])) := [⟨0, s0, fun k (x : (Int × Int × ByteArray × Bool × Int) × (ByteArray × Nat) × ByteArray) => tokens_bars.p0 k x.1 x.2.1 x.2.2⟩, ⟨15, s15, fun k (x : (Int × Int × ByteArray × Bool × Int) × Int) => tokens_bars.p15 k x.1 x.2⟩]
def fns : Nat → List (FuncId × FS) := fun k => [(59, tokens_bad.fs k), (28, tokens_quotable.fs k)]
def fs (k : Nat) : FS := ⟨[.str], [(.st (.pair (.int .i64) (.pair (.int .i64) (.pair .str (.pair .bool (.int .i64))))))], fun (x : ByteArray) => tokens_bars.f k x⟩
theorem ok : FnO Tryd.prog 54 34 Tryd.f54 1 := okF _ (by kernel_rfl) (by kernel_rfl)
theorem c (k : Nat) : Contract Tryd.prog 54 (fs k) :=
  fnS [.str] [(.st (.pair (.int .i64) (.pair (.int .i64) (.pair .str (.pair .bool (.int .i64))))))] ptL fns fgs0 fws0 (fun k (x : ByteArray) => tokens_bars.f k x) ok ⟨⟨rfl, fun _ => rfl, fun k x => by kernel_rfl⟩, ⟨rfl, fun _ => rfl, fun k x => by kernel_rfl⟩, trivial⟩ (fun k x => by kernel_rfl) (fun k => ⟨⟨tokens_bad.c k, tokens_quotable.c k, trivial⟩, trivial, trivial⟩) k
end tokens_bars

namespace bytealg_IndexByteString
theorem c (k : Nat) : Contract Tryd.prog 83 ⟨[.str, (.int .u8)], [(.int .i64)], fun (x : ByteArray × Int) => bytealg_IndexByteString.f k x.1 x.2⟩ :=
  indexByteString_contract (fn := Tryd.f83) (by kernel_rfl) (by kernel_rfl) (by kernel_rfl) (by kernel_rfl) (by kernel_rfl) (fun _ _ => rfl)
end bytealg_IndexByteString

namespace stringslite_IndexByte
def ptL : List (Pt (TD [(.int .i64)])) := []
def fns : Nat → List (FuncId × FS) := fun k => [(83, ⟨[.str, (.int .u8)], [(.int .i64)], fun (x : ByteArray × Int) => bytealg_IndexByteString.f k x.1 x.2⟩)]
def fs (k : Nat) : FS := ⟨[.str, (.int .u8)], [(.int .i64)], fun (x : ByteArray × Int) => stringslite_IndexByte.f k x.1 x.2⟩
theorem ok : FnO Tryd.prog 76 8 Tryd.f76 2 := okF _ (by kernel_rfl) (by kernel_rfl)
theorem c (k : Nat) : Contract Tryd.prog 76 (fs k) :=
  fnS [.str, (.int .u8)] [(.int .i64)] ptL fns fgs0 fws0 (fun k (x : ByteArray × Int) => stringslite_IndexByte.f k x.1 x.2) ok trivial (fun k x => by kernel_rfl) (fun k => ⟨⟨bytealg_IndexByteString.c k, trivial⟩, trivial, trivial⟩) k
end stringslite_IndexByte

namespace strings_ReplaceAll
theorem c (k : Nat) : Contract Tryd.prog 29 ⟨[.str, .str, .str], [.str], fun (x : ByteArray × ByteArray × ByteArray) => strings_ReplaceAll.f k x.1 x.2.1 x.2.2⟩ := repl_contract (fun _ _ _ => rfl)
end strings_ReplaceAll

namespace tokens_text
def s0 : PSig := ⟨0, [(59, (.st (.pair (.int .i64) (.pair (.int .i64) (.pair .str (.pair .bool (.int .i64)))))), true)], [(0, .val .str), (1, .val .bool), (4, .ptr 0 []), (5, .val (.int .i64))]⟩
def s4 : PSig := ⟨0, [(59, (.st (.pair (.int .i64) (.pair (.int .i64) (.pair .str (.pair .bool (.int .i64)))))), true), (9, itT, true)], [(0, .val .str), (1, .val .bool), (4, .ptr 0 []), (5, .val (.int .i64)), (11, .ptr 1 [])]⟩
def s19 : PSig := ⟨0, [(59, (.st (.pair (.int .i64) (.pair (.int .i64) (.pair .str (.pair .bool (.int .i64)))))), true)], [(0, .val .str), (1, .val .bool), (4, .ptr 0 []), (5, .val (.int .i64))]⟩
def s21 : PSig := ⟨0, [(59, (.st (.pair (.int .i64) (.pair (.int .i64) (.pair .str (.pair .bool (.int .i64)))))), true)], [(4, .ptr 0 [])]⟩
def s27 : PSig := ⟨0, [(59, (.st (.pair (.int .i64) (.pair (.int .i64) (.pair .str (.pair .bool (.int .i64)))))), true)], [(0, .val .str), (1, .val .bool), (4, .ptr 0 []), (5, .val (.int .i64))]⟩
def s29 : PSig := ⟨0, [(59, (.st (.pair (.int .i64) (.pair (.int .i64) (.pair .str (.pair .bool (.int .i64)))))), true)], [(0, .val .str), (4, .ptr 0 []), (5, .val (.int .i64))]⟩
def ptL : List (Pt (TD [(.st (.pair (.int .i64) (.pair (.int .i64) (.pair .str (.pair .bool (.int .i64))))))])) := [⟨0, s0, fun k (x : (Int × Int × ByteArray × Bool × Int) × ByteArray × Bool × Int) => tokens_text.p0 k x.1 x.2.1 x.2.2.1 x.2.2.2⟩, ⟨4, s4, fun k (x : (Int × Int × ByteArray × Bool × Int) × (ByteArray × Nat) × ByteArray × Bool × Int) => tokens_text.p4 k x.1 x.2.1 x.2.2.1 x.2.2.2.1 x.2.2.2.2⟩, ⟨19, s19, fun k (x : (Int × Int × ByteArray × Bool × Int) × ByteArray × Bool × Int) => tokens_text.p19 k x.1 x.2.1 x.2.2.1 x.2.2.2⟩, ⟨21, s21, fun k (x : (Int × Int × ByteArray × Bool × Int)) => tokens_text.p21 k x⟩, ⟨27, s27, fun k (x : (Int × Int × ByteArray × Bool × Int) × ByteArray × Bool × Int) => tokens_text.p27 k x.1 x.2.1 x.2.2.1 x.2.2.2⟩, ⟨29, s29, fun k (x : (Int × Int × ByteArray × Bool × Int) × ByteArray × Int) => tokens_text.p29 k x.1 x.2.1 x.2.2⟩]
def fns : Nat → List (FuncId × FS) := fun k => [(29, ⟨[.str, .str, .str], [.str], fun (x : ByteArray × ByteArray × ByteArray) => strings_ReplaceAll.f k x.1 x.2.1 x.2.2⟩), (28, tokens_quotable.fs k), (59, tokens_bad.fs k)]
def fs (k : Nat) : FS := ⟨[.str, .bool], [(.st (.pair (.int .i64) (.pair (.int .i64) (.pair .str (.pair .bool (.int .i64))))))], fun (x : ByteArray × Bool) => tokens_text.f k x.1 x.2⟩
theorem ok : FnO Tryd.prog 55 79 Tryd.f55 2 := okF _ (by kernel_rfl) (by kernel_rfl)
theorem c (k : Nat) : Contract Tryd.prog 55 (fs k) :=
  fnS [.str, .bool] [(.st (.pair (.int .i64) (.pair (.int .i64) (.pair .str (.pair .bool (.int .i64))))))] ptL fns fgs0 fws0 (fun k (x : ByteArray × Bool) => tokens_text.f k x.1 x.2) ok ⟨⟨rfl, fun _ => rfl, fun k x => by kernel_rfl⟩, ⟨rfl, fun _ => rfl, fun k x => by kernel_rfl⟩, ⟨rfl, fun _ => rfl, fun k x => by kernel_rfl⟩, ⟨rfl, fun _ => rfl, fun k x => by kernel_rfl⟩, ⟨rfl, fun _ => rfl, fun k x => by kernel_rfl⟩, ⟨rfl, fun _ => rfl, fun k x => by kernel_rfl⟩, trivial⟩ (fun k x => by kernel_rfl) (fun k => ⟨⟨strings_ReplaceAll.c k, tokens_quotable.c k, tokens_bad.c k, trivial⟩, trivial, trivial⟩) k
end tokens_text

namespace tokens_digit
def ptL : List (Pt (TD [.bool])) := []
def fs (k : Nat) : FS := ⟨[(.int .u8)], [.bool], fun (x : Int) => tokens_digit.f k x⟩
theorem ok : FnO Tryd.prog 47 9 Tryd.f47 1 := okF _ (by kernel_rfl) (by kernel_rfl)
theorem c (k : Nat) : Contract Tryd.prog 47 (fs k) :=
  fnS [(.int .u8)] [.bool] ptL fns0 fgs0 fws0 (fun k (x : Int) => tokens_digit.f k x) ok trivial (fun k x => by kernel_rfl) (fun _ => ⟨trivial, trivial, trivial⟩) k
end tokens_digit

namespace tokens_hex
def ptL : List (Pt (TD [.bool])) := []
def fns : Nat → List (FuncId × FS) := fun k => [(47, tokens_digit.fs k)]
def fs (k : Nat) : FS := ⟨[(.int .u8)], [.bool], fun (x : Int) => tokens_hex.f k x⟩
theorem ok : FnO Tryd.prog 72 15 Tryd.f72 1 := okF _ (by kernel_rfl) (by kernel_rfl)
theorem c (k : Nat) : Contract Tryd.prog 72 (fs k) :=
  fnS [(.int .u8)] [.bool] ptL fns fgs0 fws0 (fun k (x : Int) => tokens_hex.f k x) ok trivial (fun k x => by kernel_rfl) (fun k => ⟨⟨tokens_digit.c k, trivial⟩, trivial, trivial⟩) k
end tokens_hex

namespace tokens_two
def ptL : List (Pt (TD [.bool])) := []
def fs (k : Nat) : FS := ⟨[(.int .u8)], [.bool], fun (x : Int) => tokens_two.f k x⟩
theorem ok : FnO Tryd.prog 73 9 Tryd.f73 1 := okF _ (by kernel_rfl) (by kernel_rfl)
theorem c (k : Nat) : Contract Tryd.prog 73 (fs k) :=
  fnS [(.int .u8)] [.bool] ptL fns0 fgs0 fws0 (fun k (x : Int) => tokens_two.f k x) ok trivial (fun k x => by kernel_rfl) (fun _ => ⟨trivial, trivial, trivial⟩) k
end tokens_two

namespace tokens_letter
def ptL : List (Pt (TD [.bool])) := []
def fs (k : Nat) : FS := ⟨[(.int .u8)], [.bool], fun (x : Int) => tokens_letter.f k x⟩
theorem ok : FnO Tryd.prog 64 11 Tryd.f64 1 := okF _ (by kernel_rfl) (by kernel_rfl)
theorem c (k : Nat) : Contract Tryd.prog 64 (fs k) :=
  fnS [(.int .u8)] [.bool] ptL fns0 fgs0 fws0 (fun k (x : Int) => tokens_letter.f k x) ok trivial (fun k x => by kernel_rfl) (fun _ => ⟨trivial, trivial, trivial⟩) k
end tokens_letter

namespace strings_IndexByte
def ptL : List (Pt (TD [(.int .i64)])) := []
def fns : Nat → List (FuncId × FS) := fun k => [(76, stringslite_IndexByte.fs k)]
def fs (k : Nat) : FS := ⟨[.str, (.int .u8)], [(.int .i64)], fun (x : ByteArray × Int) => strings_IndexByte.f k x.1 x.2⟩
theorem ok : FnO Tryd.prog 65 8 Tryd.f65 2 := okF _ (by kernel_rfl) (by kernel_rfl)
theorem c (k : Nat) : Contract Tryd.prog 65 (fs k) :=
  fnS [.str, (.int .u8)] [(.int .i64)] ptL fns fgs0 fws0 (fun k (x : ByteArray × Int) => strings_IndexByte.f k x.1 x.2) ok trivial (fun k x => by kernel_rfl) (fun k => ⟨⟨stringslite_IndexByte.c k, trivial⟩, trivial, trivial⟩) k
end strings_IndexByte

namespace tokens_sign
def ptL : List (Pt (TD [.bool])) := []
def fns : Nat → List (FuncId × FS) := fun k => [(64, tokens_letter.fs k), (47, tokens_digit.fs k), (65, strings_IndexByte.fs k)]
def fs (k : Nat) : FS := ⟨[(.int .u8)], [.bool], fun (x : Int) => tokens_sign.f k x⟩
theorem ok : FnO Tryd.prog 48 14 Tryd.f48 1 := okF _ (by kernel_rfl) (by kernel_rfl)
theorem c (k : Nat) : Contract Tryd.prog 48 (fs k) :=
  fnS [(.int .u8)] [.bool] ptL fns fgs0 fws0 (fun k (x : Int) => tokens_sign.f k x) ok trivial (fun k x => by kernel_rfl) (fun k => ⟨⟨tokens_letter.c k, tokens_digit.c k, strings_IndexByte.c k, trivial⟩, trivial, trivial⟩) k
end tokens_sign

namespace tokens_ends
def s7 : PSig := ⟨0, [(59, (.st (.pair (.int .i64) (.pair (.int .i64) (.pair .str (.pair .bool (.int .i64)))))), true)], [(0, .val .str), (2, .val (.int .i64)), (3, .val (.int .i64)), (4, .val (.int .i64)), (10, .ptr 0 [])]⟩
def s11 : PSig := ⟨0, [(59, (.st (.pair (.int .i64) (.pair (.int .i64) (.pair .str (.pair .bool (.int .i64)))))), true)], [(0, .val .str), (2, .val (.int .i64)), (3, .val (.int .i64)), (4, .val (.int .i64)), (10, .ptr 0 [])]⟩
def ptL : List (Pt (TD [(.st (.pair (.int .i64) (.pair (.int .i64) (.pair .str (.pair .bool (.int .i64))))))])) := [⟨7, s7, fun k (x : (Int × Int × ByteArray × Bool × Int) × ByteArray × Int × Int × Int) => tokens_ends.p7 k x.1 x.2.1 x.2.2.1 x.2.2.2.1 x.2.2.2.2⟩, ⟨11, s11, fun k (x : (Int × Int × ByteArray × Bool × Int) × ByteArray × Int × Int × Int) => tokens_ends.p11 k x.1 x.2.1 x.2.2.1 x.2.2.2.1 x.2.2.2.2⟩]
def fns : Nat → List (FuncId × FS) := fun k => [(48, tokens_sign.fs k), (59, tokens_bad.fs k)]
def fs (k : Nat) : FS := ⟨[.str, .bool, (.int .i64), (.int .i64), (.int .i64)], [(.st (.pair (.int .i64) (.pair (.int .i64) (.pair .str (.pair .bool (.int .i64))))))], fun (x : ByteArray × Bool × Int × Int × Int) => tokens_ends.f k x.1 x.2.1 x.2.2.1 x.2.2.2.1 x.2.2.2.2⟩
theorem ok : FnO Tryd.prog 75 40 Tryd.f75 5 := okF _ (by kernel_rfl) (by kernel_rfl)
theorem c (k : Nat) : Contract Tryd.prog 75 (fs k) :=
  fnS [.str, .bool, (.int .i64), (.int .i64), (.int .i64)] [(.st (.pair (.int .i64) (.pair (.int .i64) (.pair .str (.pair .bool (.int .i64))))))] ptL fns fgs0 fws0 (fun k (x : ByteArray × Bool × Int × Int × Int) => tokens_ends.f k x.1 x.2.1 x.2.2.1 x.2.2.2.1 x.2.2.2.2) ok ⟨⟨rfl, fun _ => rfl, fun k x => by kernel_rfl⟩, ⟨rfl, fun _ => rfl, fun k x => by kernel_rfl⟩, trivial⟩ (fun k x => by kernel_rfl) (fun k => ⟨⟨tokens_sign.c k, tokens_bad.c k, trivial⟩, trivial, trivial⟩) k
end tokens_ends

namespace tokens_run_hex
def s0 : PSig := ⟨0, [], [(0, .val .str), (1, .fn 72), (5, .val (.int .i64))]⟩
def s9 : PSig := ⟨0, [], [(5, .val (.int .i64))]⟩
def ptL : List (Pt (TD [(.int .i64)])) := [⟨0, s0, fun k (x : ByteArray × Int) => tokens_run_hex.p0 k x.1 x.2⟩, ⟨9, s9, fun k (x : Int) => tokens_run_hex.p9 k x⟩]
def fns : Nat → List (FuncId × FS) := fun k => [(72, tokens_hex.fs k)]
def fs (k : Nat) : FS := ⟨[.str, (.fnc 72)], [(.int .i64)], fun (x : ByteArray × Unit) => tokens_run_hex.f k x.1 x.2⟩
theorem ok : FnO Tryd.prog 74 20 Tryd.f74 2 := okF _ (by kernel_rfl) (by kernel_rfl)
theorem c (k : Nat) : Contract Tryd.prog 74 (fs k) :=
  fnS [.str, (.fnc 72)] [(.int .i64)] ptL fns fgs0 fws0 (fun k (x : ByteArray × Unit) => tokens_run_hex.f k x.1 x.2) ok ⟨⟨rfl, fun _ => rfl, fun k x => by kernel_rfl⟩, ⟨rfl, fun _ => rfl, fun k x => by kernel_rfl⟩, trivial⟩ (fun k x => by kernel_rfl) (fun k => ⟨⟨tokens_hex.c k, trivial⟩, trivial, trivial⟩) k
end tokens_run_hex

namespace tokens_run_two
def s0 : PSig := ⟨0, [], [(0, .val .str), (1, .fn 73), (5, .val (.int .i64))]⟩
def s9 : PSig := ⟨0, [], [(5, .val (.int .i64))]⟩
def ptL : List (Pt (TD [(.int .i64)])) := [⟨0, s0, fun k (x : ByteArray × Int) => tokens_run_two.p0 k x.1 x.2⟩, ⟨9, s9, fun k (x : Int) => tokens_run_two.p9 k x⟩]
def fns : Nat → List (FuncId × FS) := fun k => [(73, tokens_two.fs k)]
def fs (k : Nat) : FS := ⟨[.str, (.fnc 73)], [(.int .i64)], fun (x : ByteArray × Unit) => tokens_run_two.f k x.1 x.2⟩
theorem ok : FnO Tryd.prog 74 20 Tryd.f74 2 := okF _ (by kernel_rfl) (by kernel_rfl)
theorem c (k : Nat) : Contract Tryd.prog 74 (fs k) :=
  fnS [.str, (.fnc 73)] [(.int .i64)] ptL fns fgs0 fws0 (fun k (x : ByteArray × Unit) => tokens_run_two.f k x.1 x.2) ok ⟨⟨rfl, fun _ => rfl, fun k x => by kernel_rfl⟩, ⟨rfl, fun _ => rfl, fun k x => by kernel_rfl⟩, trivial⟩ (fun k x => by kernel_rfl) (fun k => ⟨⟨tokens_two.c k, trivial⟩, trivial, trivial⟩) k
end tokens_run_two

namespace tokens_sharp
def s25 : PSig := ⟨0, [(59, (.st (.pair (.int .i64) (.pair (.int .i64) (.pair .str (.pair .bool (.int .i64)))))), true)], [(0, .val .str), (1, .val .bool), (4, .ptr 0 []), (5, .val (.int .i64)), (7, .val (.int .i64))]⟩
def s31 : PSig := ⟨0, [(59, (.st (.pair (.int .i64) (.pair (.int .i64) (.pair .str (.pair .bool (.int .i64)))))), true)], [(4, .ptr 0 [])]⟩
def ptL : List (Pt (TD [(.st (.pair (.int .i64) (.pair (.int .i64) (.pair .str (.pair .bool (.int .i64))))))])) := [⟨25, s25, fun k (x : (Int × Int × ByteArray × Bool × Int) × ByteArray × Bool × Int × Int) => tokens_sharp.p25 k x.1 x.2.1 x.2.2.1 x.2.2.2.1 x.2.2.2.2⟩, ⟨31, s31, fun k (x : (Int × Int × ByteArray × Bool × Int)) => tokens_sharp.p31 k x⟩]
def fns : Nat → List (FuncId × FS) := fun k => [(59, tokens_bad.fs k), (74, tokens_run_hex.fs k), (75, tokens_ends.fs k), (74, tokens_run_two.fs k)]
def fs (k : Nat) : FS := ⟨[.str, .bool], [(.st (.pair (.int .i64) (.pair (.int .i64) (.pair .str (.pair .bool (.int .i64))))))], fun (x : ByteArray × Bool) => tokens_sharp.f k x.1 x.2⟩
theorem ok : FnO Tryd.prog 56 42 Tryd.f56 2 := okF _ (by kernel_rfl) (by kernel_rfl)
theorem c (k : Nat) : Contract Tryd.prog 56 (fs k) :=
  fnS [.str, .bool] [(.st (.pair (.int .i64) (.pair (.int .i64) (.pair .str (.pair .bool (.int .i64))))))] ptL fns fgs0 fws0 (fun k (x : ByteArray × Bool) => tokens_sharp.f k x.1 x.2) ok ⟨⟨rfl, fun _ => rfl, fun k x => by kernel_rfl⟩, ⟨rfl, fun _ => rfl, fun k x => by kernel_rfl⟩, trivial⟩ (fun k x => by kernel_rfl) (fun k => ⟨⟨tokens_bad.c k, tokens_run_hex.c k, tokens_ends.c k, tokens_run_two.c k, trivial⟩, trivial, trivial⟩) k
end tokens_sharp

namespace tokens_run_sign
def s0 : PSig := ⟨0, [], [(0, .val .str), (1, .fn 48), (5, .val (.int .i64))]⟩
def s9 : PSig := ⟨0, [], [(5, .val (.int .i64))]⟩
def ptL : List (Pt (TD [(.int .i64)])) := [⟨0, s0, fun k (x : ByteArray × Int) => tokens_run_sign.p0 k x.1 x.2⟩, ⟨9, s9, fun k (x : Int) => tokens_run_sign.p9 k x⟩]
def fns : Nat → List (FuncId × FS) := fun k => [(48, tokens_sign.fs k)]
def fs (k : Nat) : FS := ⟨[.str, (.fnc 48)], [(.int .i64)], fun (x : ByteArray × Unit) => tokens_run_sign.f k x.1 x.2⟩
theorem ok : FnO Tryd.prog 74 20 Tryd.f74 2 := okF _ (by kernel_rfl) (by kernel_rfl)
theorem c (k : Nat) : Contract Tryd.prog 74 (fs k) :=
  fnS [.str, (.fnc 48)] [(.int .i64)] ptL fns fgs0 fws0 (fun k (x : ByteArray × Unit) => tokens_run_sign.f k x.1 x.2) ok ⟨⟨rfl, fun _ => rfl, fun k x => by kernel_rfl⟩, ⟨rfl, fun _ => rfl, fun k x => by kernel_rfl⟩, trivial⟩ (fun k x => by kernel_rfl) (fun k => ⟨⟨tokens_sign.c k, trivial⟩, trivial, trivial⟩) k
end tokens_run_sign

namespace tokens_word
def s9 : PSig := ⟨0, [(59, (.st (.pair (.int .i64) (.pair (.int .i64) (.pair .str (.pair .bool (.int .i64)))))), true)], [(0, .val .str), (1, .val .bool), (2, .val (.int .i64)), (3, .val (.int .i64)), (8, .ptr 0 []), (9, .val (.int .i64))]⟩
def s13 : PSig := ⟨0, [(59, (.st (.pair (.int .i64) (.pair (.int .i64) (.pair .str (.pair .bool (.int .i64)))))), true)], [(0, .val .str), (2, .val (.int .i64)), (3, .val (.int .i64)), (8, .ptr 0 []), (9, .val (.int .i64))]⟩
def ptL : List (Pt (TD [(.st (.pair (.int .i64) (.pair (.int .i64) (.pair .str (.pair .bool (.int .i64))))))])) := [⟨9, s9, fun k (x : (Int × Int × ByteArray × Bool × Int) × ByteArray × Bool × Int × Int × Int) => tokens_word.p9 k x.1 x.2.1 x.2.2.1 x.2.2.2.1 x.2.2.2.2.1 x.2.2.2.2.2⟩, ⟨13, s13, fun k (x : (Int × Int × ByteArray × Bool × Int) × ByteArray × Int × Int × Int) => tokens_word.p13 k x.1 x.2.1 x.2.2.1 x.2.2.2.1 x.2.2.2.2⟩]
def fns : Nat → List (FuncId × FS) := fun k => [(74, tokens_run_sign.fs k), (47, tokens_digit.fs k), (59, tokens_bad.fs k)]
def fs (k : Nat) : FS := ⟨[.str, .bool, (.int .i64), (.int .i64)], [(.st (.pair (.int .i64) (.pair (.int .i64) (.pair .str (.pair .bool (.int .i64))))))], fun (x : ByteArray × Bool × Int × Int) => tokens_word.f k x.1 x.2.1 x.2.2.1 x.2.2.2⟩
theorem ok : FnO Tryd.prog 57 49 Tryd.f57 4 := okF _ (by kernel_rfl) (by kernel_rfl)
theorem c (k : Nat) : Contract Tryd.prog 57 (fs k) :=
  fnS [.str, .bool, (.int .i64), (.int .i64)] [(.st (.pair (.int .i64) (.pair (.int .i64) (.pair .str (.pair .bool (.int .i64))))))] ptL fns fgs0 fws0 (fun k (x : ByteArray × Bool × Int × Int) => tokens_word.f k x.1 x.2.1 x.2.2.1 x.2.2.2) ok ⟨⟨rfl, fun _ => rfl, fun k x => by kernel_rfl⟩, ⟨rfl, fun _ => rfl, fun k x => by kernel_rfl⟩, trivial⟩ (fun k x => by kernel_rfl) (fun k => ⟨⟨tokens_run_sign.c k, tokens_digit.c k, tokens_bad.c k, trivial⟩, trivial, trivial⟩) k
end tokens_word

namespace tokens_run_digit
def s0 : PSig := ⟨0, [], [(0, .val .str), (1, .fn 47), (5, .val (.int .i64))]⟩
def s9 : PSig := ⟨0, [], [(5, .val (.int .i64))]⟩
def ptL : List (Pt (TD [(.int .i64)])) := [⟨0, s0, fun k (x : ByteArray × Int) => tokens_run_digit.p0 k x.1 x.2⟩, ⟨9, s9, fun k (x : Int) => tokens_run_digit.p9 k x⟩]
def fns : Nat → List (FuncId × FS) := fun k => [(47, tokens_digit.fs k)]
def fs (k : Nat) : FS := ⟨[.str, (.fnc 47)], [(.int .i64)], fun (x : ByteArray × Unit) => tokens_run_digit.f k x.1 x.2⟩
theorem ok : FnO Tryd.prog 74 20 Tryd.f74 2 := okF _ (by kernel_rfl) (by kernel_rfl)
theorem c (k : Nat) : Contract Tryd.prog 74 (fs k) :=
  fnS [.str, (.fnc 47)] [(.int .i64)] ptL fns fgs0 fws0 (fun k (x : ByteArray × Unit) => tokens_run_digit.f k x.1 x.2) ok ⟨⟨rfl, fun _ => rfl, fun k x => by kernel_rfl⟩, ⟨rfl, fun _ => rfl, fun k x => by kernel_rfl⟩, trivial⟩ (fun k x => by kernel_rfl) (fun k => ⟨⟨tokens_digit.c k, trivial⟩, trivial, trivial⟩) k
end tokens_run_digit

namespace tokens_number
def s9 : PSig := ⟨0, [(59, (.st (.pair (.int .i64) (.pair (.int .i64) (.pair .str (.pair .bool (.int .i64)))))), true)], [(0, .val .str), (1, .val .bool), (4, .ptr 0 []), (5, .val (.int .i64))]⟩
def s11 : PSig := ⟨0, [(59, (.st (.pair (.int .i64) (.pair (.int .i64) (.pair .str (.pair .bool (.int .i64)))))), true)], [(0, .val .str), (1, .val .bool), (4, .ptr 0 []), (5, .val (.int .i64))]⟩
def s21 : PSig := ⟨0, [(59, (.st (.pair (.int .i64) (.pair (.int .i64) (.pair .str (.pair .bool (.int .i64)))))), true)], [(4, .ptr 0 [])]⟩
def ptL : List (Pt (TD [(.st (.pair (.int .i64) (.pair (.int .i64) (.pair .str (.pair .bool (.int .i64))))))])) := [⟨9, s9, fun k (x : (Int × Int × ByteArray × Bool × Int) × ByteArray × Bool × Int) => tokens_number.p9 k x.1 x.2.1 x.2.2.1 x.2.2.2⟩, ⟨11, s11, fun k (x : (Int × Int × ByteArray × Bool × Int) × ByteArray × Bool × Int) => tokens_number.p11 k x.1 x.2.1 x.2.2.1 x.2.2.2⟩, ⟨21, s21, fun k (x : (Int × Int × ByteArray × Bool × Int)) => tokens_number.p21 k x⟩]
def fns : Nat → List (FuncId × FS) := fun k => [(74, tokens_run_digit.fs k), (59, tokens_bad.fs k), (75, tokens_ends.fs k)]
def fs (k : Nat) : FS := ⟨[.str, .bool], [(.st (.pair (.int .i64) (.pair (.int .i64) (.pair .str (.pair .bool (.int .i64))))))], fun (x : ByteArray × Bool) => tokens_number.f k x.1 x.2⟩
theorem ok : FnO Tryd.prog 58 56 Tryd.f58 2 := okF _ (by kernel_rfl) (by kernel_rfl)
theorem c (k : Nat) : Contract Tryd.prog 58 (fs k) :=
  fnS [.str, .bool] [(.st (.pair (.int .i64) (.pair (.int .i64) (.pair .str (.pair .bool (.int .i64))))))] ptL fns fgs0 fws0 (fun k (x : ByteArray × Bool) => tokens_number.f k x.1 x.2) ok ⟨⟨rfl, fun _ => rfl, fun k x => by kernel_rfl⟩, ⟨rfl, fun _ => rfl, fun k x => by kernel_rfl⟩, ⟨rfl, fun _ => rfl, fun k x => by kernel_rfl⟩, trivial⟩ (fun k x => by kernel_rfl) (fun k => ⟨⟨tokens_run_digit.c k, tokens_bad.c k, tokens_ends.c k, trivial⟩, trivial, trivial⟩) k
end tokens_number

namespace tokens_front
def ptL : List (Pt (TD [(.st (.pair (.int .i64) (.pair (.int .i64) (.pair .str (.pair .bool (.int .i64))))))])) := []
def fns : Nat → List (FuncId × FS) := fun k => [(54, tokens_bars.fs k), (55, tokens_text.fs k), (56, tokens_sharp.fs k), (57, tokens_word.fs k), (47, tokens_digit.fs k), (58, tokens_number.fs k), (48, tokens_sign.fs k), (59, tokens_bad.fs k)]
def fs (k : Nat) : FS := ⟨[.str, .bool], [(.st (.pair (.int .i64) (.pair (.int .i64) (.pair .str (.pair .bool (.int .i64))))))], fun (x : ByteArray × Bool) => tokens_front.f k x.1 x.2⟩
theorem ok : FnO Tryd.prog 33 52 Tryd.f33 2 := okF _ (by kernel_rfl) (by kernel_rfl)
theorem c (k : Nat) : Contract Tryd.prog 33 (fs k) :=
  fnS [.str, .bool] [(.st (.pair (.int .i64) (.pair (.int .i64) (.pair .str (.pair .bool (.int .i64))))))] ptL fns fgs0 fws0 (fun k (x : ByteArray × Bool) => tokens_front.f k x.1 x.2) ok trivial (fun k x => by kernel_rfl) (fun k => ⟨⟨tokens_bars.c k, tokens_text.c k, tokens_sharp.c k, tokens_word.c k, tokens_digit.c k, tokens_number.c k, tokens_sign.c k, tokens_bad.c k, trivial⟩, trivial, trivial⟩) k
end tokens_front

namespace stringslite_Clone
theorem c (k : Nat) : Contract Tryd.prog 60 ⟨[.str], [.str], fun (x : ByteArray) => stringslite_Clone.f k x⟩ := clone_contract (fun _ => rfl)
end stringslite_Clone

namespace strings_Clone
def ptL : List (Pt (TD [.str])) := []
def fns : Nat → List (FuncId × FS) := fun k => [(60, ⟨[.str], [.str], fun (x : ByteArray) => stringslite_Clone.f k x⟩)]
def fs (k : Nat) : FS := ⟨[.str], [.str], fun (x : ByteArray) => strings_Clone.f k x⟩
theorem ok : FnO Tryd.prog 35 5 Tryd.f35 1 := okF _ (by kernel_rfl) (by kernel_rfl)
theorem c (k : Nat) : Contract Tryd.prog 35 (fs k) :=
  fnS [.str] [.str] ptL fns fgs0 fws0 (fun k (x : ByteArray) => strings_Clone.f k x) ok trivial (fun k x => by kernel_rfl) (fun k => ⟨⟨stringslite_Clone.c k, trivial⟩, trivial, trivial⟩) k
end strings_Clone

namespace tokens_Scanner_tell
def s0 : PSig := ⟨1, [(46, (.st (.pair (.int .i64) (.pair .str (.pair .bool (.pair (.st (.pair (.int .i64) (.pair .str (.pair (.int .i64) (.pair (.int .i64) (.pair (.int .i64) (.int .i64))))))) (.int .i64)))))), true), (25, (.st (.pair (.int .i64) (.pair .str (.pair (.int .i64) (.pair (.int .i64) (.pair (.int .i64) (.int .i64))))))), false)], [(0, .ptr 0 []), (1, .val .bool), (6, .own 1)]⟩
def s17 : PSig := ⟨1, [(46, (.st (.pair (.int .i64) (.pair .str (.pair .bool (.pair (.st (.pair (.int .i64) (.pair .str (.pair (.int .i64) (.pair (.int .i64) (.pair (.int .i64) (.int .i64))))))) (.int .i64)))))), true), (25, (.st (.pair (.int .i64) (.pair .str (.pair (.int .i64) (.pair (.int .i64) (.pair (.int .i64) (.int .i64))))))), false), (59, (.st (.pair (.int .i64) (.pair (.int .i64) (.pair .str (.pair .bool (.int .i64)))))), true)], [(0, .ptr 0 []), (1, .val .bool), (6, .own 1), (7, .ptr 2 [])]⟩
def s19 : PSig := ⟨1, [(46, (.st (.pair (.int .i64) (.pair .str (.pair .bool (.pair (.st (.pair (.int .i64) (.pair .str (.pair (.int .i64) (.pair (.int .i64) (.pair (.int .i64) (.int .i64))))))) (.int .i64)))))), true), (25, (.st (.pair (.int .i64) (.pair .str (.pair (.int .i64) (.pair (.int .i64) (.pair (.int .i64) (.int .i64))))))), false), (59, (.st (.pair (.int .i64) (.pair (.int .i64) (.pair .str (.pair .bool (.int .i64)))))), true)], [(0, .ptr 0 []), (6, .own 1), (7, .ptr 2 [])]⟩
def ptL : List (Pt (TD ([.obj 46 (.st (.pair (.int .i64) (.pair .str (.pair .bool (.pair (.st (.pair (.int .i64) (.pair .str (.pair (.int .i64) (.pair (.int .i64) (.pair (.int .i64) (.int .i64))))))) (.int .i64)))))), .val .bool].flatMap PK.outs ++ [(.list (.st (.pair (.int .i64) (.pair .str (.pair (.int .i64) (.pair (.int .i64) (.pair (.int .i64) (.int .i64)))))))), (.int .i64)]))) := [⟨0, s0, fun k (x : (Int × ByteArray × Bool × (Int × ByteArray × Int × Int × Int × Int) × Int) × (List (Int × ByteArray × Int × Int × Int × Int)) × Bool) => tokens_Scanner_tell.p0 k x.1 x.2.1 x.2.2⟩, ⟨17, s17, fun k (x : (Int × ByteArray × Bool × (Int × ByteArray × Int × Int × Int × Int) × Int) × (List (Int × ByteArray × Int × Int × Int × Int)) × (Int × Int × ByteArray × Bool × Int) × Bool) => tokens_Scanner_tell.p17 k x.1 x.2.1 x.2.2.1 x.2.2.2⟩, ⟨19, s19, fun k (x : (Int × ByteArray × Bool × (Int × ByteArray × Int × Int × Int × Int) × Int) × (List (Int × ByteArray × Int × Int × Int × Int)) × (Int × Int × ByteArray × Bool × Int)) => tokens_Scanner_tell.p19 k x.1 x.2.1 x.2.2⟩]
def fns : Nat → List (FuncId × FS) := fun k => [(33, tokens_front.fs k), (35, strings_Clone.fs k)]
def fgs : Nat → List (FuncId × FG) := fun k => [(32, ⟨[.obj 46 (.st (.pair (.int .i64) (.pair .str (.pair .bool (.pair (.st (.pair (.int .i64) (.pair .str (.pair (.int .i64) (.pair (.int .i64) (.pair (.int .i64) (.int .i64))))))) (.int .i64))))))], [], none, fun (x : (Int × ByteArray × Bool × (Int × ByteArray × Int × Int × Int × Int) × Int)) => tokens_Scanner_skip.f k x⟩), (34, ⟨[.obj 46 (.st (.pair (.int .i64) (.pair .str (.pair .bool (.pair (.st (.pair (.int .i64) (.pair .str (.pair (.int .i64) (.pair (.int .i64) (.pair (.int .i64) (.int .i64))))))) (.int .i64)))))), .val (.int .i64)], [], none, fun (x : (Int × ByteArray × Bool × (Int × ByteArray × Int × Int × Int × Int) × Int) × Int) => tokens_Scanner_pass.f k x.1 x.2⟩)]
def fg (k : Nat) : FG := ⟨[.obj 46 (.st (.pair (.int .i64) (.pair .str (.pair .bool (.pair (.st (.pair (.int .i64) (.pair .str (.pair (.int .i64) (.pair (.int .i64) (.pair (.int .i64) (.int .i64))))))) (.int .i64)))))), .val .bool], [(.list (.st (.pair (.int .i64) (.pair .str (.pair (.int .i64) (.pair (.int .i64) (.pair (.int .i64) (.int .i64)))))))), (.int .i64)], some 25, fun (x : (Int × ByteArray × Bool × (Int × ByteArray × Int × Int × Int × Int) × Int) × Bool) => tokens_Scanner_tell.f k x.1 x.2⟩
theorem ok : FnO Tryd.prog 23 81 Tryd.f23 2 := okF _ (by kernel_rfl) (by kernel_rfl)
theorem c (k : Nat) : ContractG Tryd.prog 23 (fg k) :=
  fn_soundG (ps := [.obj 46 (.st (.pair (.int .i64) (.pair .str (.pair .bool (.pair (.st (.pair (.int .i64) (.pair .str (.pair (.int .i64) (.pair (.int .i64) (.pair (.int .i64) (.int .i64))))))) (.int .i64)))))), .val .bool]) (rs := [(.list (.st (.pair (.int .i64) (.pair .str (.pair (.int .i64) (.pair (.int .i64) (.pair (.int .i64) (.int .i64)))))))), (.int .i64)]) (pts := ptL) (fns := fns) (fgs := fgs) (fws := fws0) (tys := tyTab) (main := fun k (x : (Int × ByteArray × Bool × (Int × ByteArray × Int × Int × Int × Int) × Int) × Bool) => tokens_Scanner_tell.f k x.1 x.2) ok rfl mix tyOk ⟨⟨rfl, fun _ => rfl, fun k x => by kernel_rfl⟩, ⟨rfl, fun _ => rfl, fun k x => by kernel_rfl⟩, ⟨rfl, fun _ => rfl, fun k x => by kernel_rfl⟩, trivial⟩ (fun k x => by kernel_rfl) (fun k => ⟨⟨tokens_front.c k, strings_Clone.c k, trivial⟩, ⟨tokens_Scanner_skip.c k, tokens_Scanner_pass.c k, trivial⟩, trivial⟩) k
end tokens_Scanner_tell

namespace tokens_Scanner_Feed
def ptL : List (Pt (TD ([.obj 46 (.st (.pair (.int .i64) (.pair .str (.pair .bool (.pair (.st (.pair (.int .i64) (.pair .str (.pair (.int .i64) (.pair (.int .i64) (.pair (.int .i64) (.int .i64))))))) (.int .i64)))))), .val .str].flatMap PK.outs ++ [(.list (.st (.pair (.int .i64) (.pair .str (.pair (.int .i64) (.pair (.int .i64) (.pair (.int .i64) (.int .i64)))))))), (.int .i64)]))) := []
def fgs : Nat → List (FuncId × FG) := fun k => [(22, ⟨[.obj 46 (.st (.pair (.int .i64) (.pair .str (.pair .bool (.pair (.st (.pair (.int .i64) (.pair .str (.pair (.int .i64) (.pair (.int .i64) (.pair (.int .i64) (.int .i64))))))) (.int .i64))))))], [(.int .i64), .bool], none, fun (x : (Int × ByteArray × Bool × (Int × ByteArray × Int × Int × Int × Int) × Int)) => tokens_Scanner_answers.f k x⟩), (23, ⟨[.obj 46 (.st (.pair (.int .i64) (.pair .str (.pair .bool (.pair (.st (.pair (.int .i64) (.pair .str (.pair (.int .i64) (.pair (.int .i64) (.pair (.int .i64) (.int .i64))))))) (.int .i64)))))), .val .bool], [(.list (.st (.pair (.int .i64) (.pair .str (.pair (.int .i64) (.pair (.int .i64) (.pair (.int .i64) (.int .i64)))))))), (.int .i64)], some 25, fun (x : (Int × ByteArray × Bool × (Int × ByteArray × Int × Int × Int × Int) × Int) × Bool) => tokens_Scanner_tell.f k x.1 x.2⟩)]
def fg (k : Nat) : FG := ⟨[.obj 46 (.st (.pair (.int .i64) (.pair .str (.pair .bool (.pair (.st (.pair (.int .i64) (.pair .str (.pair (.int .i64) (.pair (.int .i64) (.pair (.int .i64) (.int .i64))))))) (.int .i64)))))), .val .str], [(.list (.st (.pair (.int .i64) (.pair .str (.pair (.int .i64) (.pair (.int .i64) (.pair (.int .i64) (.int .i64)))))))), (.int .i64)], some 25, fun (x : (Int × ByteArray × Bool × (Int × ByteArray × Int × Int × Int × Int) × Int) × ByteArray) => tokens_Scanner_Feed.f k x.1 x.2⟩
theorem ok : FnO Tryd.prog 13 27 Tryd.f13 2 := okF _ (by kernel_rfl) (by kernel_rfl)
theorem c (k : Nat) : ContractG Tryd.prog 13 (fg k) :=
  fn_soundG (ps := [.obj 46 (.st (.pair (.int .i64) (.pair .str (.pair .bool (.pair (.st (.pair (.int .i64) (.pair .str (.pair (.int .i64) (.pair (.int .i64) (.pair (.int .i64) (.int .i64))))))) (.int .i64)))))), .val .str]) (rs := [(.list (.st (.pair (.int .i64) (.pair .str (.pair (.int .i64) (.pair (.int .i64) (.pair (.int .i64) (.int .i64)))))))), (.int .i64)]) (pts := ptL) (fns := fns0) (fgs := fgs) (fws := fws0) (tys := tyTab) (main := fun k (x : (Int × ByteArray × Bool × (Int × ByteArray × Int × Int × Int × Int) × Int) × ByteArray) => tokens_Scanner_Feed.f k x.1 x.2) ok rfl mix tyOk trivial (fun k x => by kernel_rfl) (fun k => ⟨trivial, ⟨tokens_Scanner_answers.c k, tokens_Scanner_tell.c k, trivial⟩, trivial⟩) k
end tokens_Scanner_Feed

namespace tokens_Scanner_End
def s15 : PSig := ⟨1, [(46, (.st (.pair (.int .i64) (.pair .str (.pair .bool (.pair (.st (.pair (.int .i64) (.pair .str (.pair (.int .i64) (.pair (.int .i64) (.pair (.int .i64) (.int .i64))))))) (.int .i64)))))), true), (25, (.st (.pair (.int .i64) (.pair .str (.pair (.int .i64) (.pair (.int .i64) (.pair (.int .i64) (.int .i64))))))), false)], [(6, .own 1), (7, .val (.int .i64))]⟩
def ptL : List (Pt (TD ([.obj 46 (.st (.pair (.int .i64) (.pair .str (.pair .bool (.pair (.st (.pair (.int .i64) (.pair .str (.pair (.int .i64) (.pair (.int .i64) (.pair (.int .i64) (.int .i64))))))) (.int .i64))))))].flatMap PK.outs ++ [(.list (.st (.pair (.int .i64) (.pair .str (.pair (.int .i64) (.pair (.int .i64) (.pair (.int .i64) (.int .i64)))))))), (.int .i64)]))) := [⟨15, s15, fun k (x : (Int × ByteArray × Bool × (Int × ByteArray × Int × Int × Int × Int) × Int) × (List (Int × ByteArray × Int × Int × Int × Int)) × Int) => tokens_Scanner_End.p15 k x.1 x.2.1 x.2.2⟩]
def fgs : Nat → List (FuncId × FG) := fun k => [(22, ⟨[.obj 46 (.st (.pair (.int .i64) (.pair .str (.pair .bool (.pair (.st (.pair (.int .i64) (.pair .str (.pair (.int .i64) (.pair (.int .i64) (.pair (.int .i64) (.int .i64))))))) (.int .i64))))))], [(.int .i64), .bool], none, fun (x : (Int × ByteArray × Bool × (Int × ByteArray × Int × Int × Int × Int) × Int)) => tokens_Scanner_answers.f k x⟩), (23, ⟨[.obj 46 (.st (.pair (.int .i64) (.pair .str (.pair .bool (.pair (.st (.pair (.int .i64) (.pair .str (.pair (.int .i64) (.pair (.int .i64) (.pair (.int .i64) (.int .i64))))))) (.int .i64)))))), .val .bool], [(.list (.st (.pair (.int .i64) (.pair .str (.pair (.int .i64) (.pair (.int .i64) (.pair (.int .i64) (.int .i64)))))))), (.int .i64)], some 25, fun (x : (Int × ByteArray × Bool × (Int × ByteArray × Int × Int × Int × Int) × Int) × Bool) => tokens_Scanner_tell.f k x.1 x.2⟩)]
def fg (k : Nat) : FG := ⟨[.obj 46 (.st (.pair (.int .i64) (.pair .str (.pair .bool (.pair (.st (.pair (.int .i64) (.pair .str (.pair (.int .i64) (.pair (.int .i64) (.pair (.int .i64) (.int .i64))))))) (.int .i64))))))], [(.list (.st (.pair (.int .i64) (.pair .str (.pair (.int .i64) (.pair (.int .i64) (.pair (.int .i64) (.int .i64)))))))), (.int .i64)], some 25, fun (x : (Int × ByteArray × Bool × (Int × ByteArray × Int × Int × Int × Int) × Int)) => tokens_Scanner_End.f k x⟩
theorem ok : FnO Tryd.prog 15 27 Tryd.f15 1 := okF _ (by kernel_rfl) (by kernel_rfl)
theorem c (k : Nat) : ContractG Tryd.prog 15 (fg k) :=
  fn_soundG (ps := [.obj 46 (.st (.pair (.int .i64) (.pair .str (.pair .bool (.pair (.st (.pair (.int .i64) (.pair .str (.pair (.int .i64) (.pair (.int .i64) (.pair (.int .i64) (.int .i64))))))) (.int .i64))))))]) (rs := [(.list (.st (.pair (.int .i64) (.pair .str (.pair (.int .i64) (.pair (.int .i64) (.pair (.int .i64) (.int .i64)))))))), (.int .i64)]) (pts := ptL) (fns := fns0) (fgs := fgs) (fws := fws0) (tys := tyTab) (main := fun k (x : (Int × ByteArray × Bool × (Int × ByteArray × Int × Int × Int × Int) × Int)) => tokens_Scanner_End.f k x) ok rfl mix tyOk ⟨⟨rfl, fun _ => rfl, fun k x => by kernel_rfl⟩, trivial⟩ (fun k x => by kernel_rfl) (fun k => ⟨trivial, ⟨tokens_Scanner_answers.c k, tokens_Scanner_tell.c k, trivial⟩, trivial⟩) k
end tokens_Scanner_End

namespace tokens_Scanner_At
def ptL : List (Pt (TD ([.obj 46 (.st (.pair (.int .i64) (.pair .str (.pair .bool (.pair (.st (.pair (.int .i64) (.pair .str (.pair (.int .i64) (.pair (.int .i64) (.pair (.int .i64) (.int .i64))))))) (.int .i64))))))].flatMap PK.outs ++ [(.st (.pair (.int .i64) (.pair .str (.pair (.int .i64) (.pair (.int .i64) (.pair (.int .i64) (.int .i64)))))))]))) := []
def fns : Nat → List (FuncId × FS) := fun k => [(21, tokens_begin.fs k)]
def fg (k : Nat) : FG := ⟨[.obj 46 (.st (.pair (.int .i64) (.pair .str (.pair .bool (.pair (.st (.pair (.int .i64) (.pair .str (.pair (.int .i64) (.pair (.int .i64) (.pair (.int .i64) (.int .i64))))))) (.int .i64))))))], [(.st (.pair (.int .i64) (.pair .str (.pair (.int .i64) (.pair (.int .i64) (.pair (.int .i64) (.int .i64)))))))], none, fun (x : (Int × ByteArray × Bool × (Int × ByteArray × Int × Int × Int × Int) × Int)) => tokens_Scanner_At.f k x⟩
theorem ok : FnO Tryd.prog 19 17 Tryd.f19 1 := okF _ (by kernel_rfl) (by kernel_rfl)
theorem c (k : Nat) : ContractG Tryd.prog 19 (fg k) :=
  fn_soundG (ps := [.obj 46 (.st (.pair (.int .i64) (.pair .str (.pair .bool (.pair (.st (.pair (.int .i64) (.pair .str (.pair (.int .i64) (.pair (.int .i64) (.pair (.int .i64) (.int .i64))))))) (.int .i64))))))]) (rs := [(.st (.pair (.int .i64) (.pair .str (.pair (.int .i64) (.pair (.int .i64) (.pair (.int .i64) (.int .i64)))))))]) (pts := ptL) (fns := fns) (fgs := fgs0) (fws := fws0) (tys := tyTab) (main := fun k (x : (Int × ByteArray × Bool × (Int × ByteArray × Int × Int × Int × Int) × Int)) => tokens_Scanner_At.f k x) ok rfl mix tyOk trivial (fun k x => by kernel_rfl) (fun k => ⟨⟨tokens_begin.c k, trivial⟩, trivial, trivial⟩) k
end tokens_Scanner_At

namespace tokens_All
def s15 : PSig := ⟨0, [(25, (.st (.pair (.int .i64) (.pair .str (.pair (.int .i64) (.pair (.int .i64) (.pair (.int .i64) (.int .i64))))))), true), (46, (.st (.pair (.int .i64) (.pair .str (.pair .bool (.pair (.st (.pair (.int .i64) (.pair .str (.pair (.int .i64) (.pair (.int .i64) (.pair (.int .i64) (.int .i64))))))) (.int .i64)))))), true), (25, (.st (.pair (.int .i64) (.pair .str (.pair (.int .i64) (.pair (.int .i64) (.pair (.int .i64) (.int .i64))))))), false)], [(4, .ptr 0 []), (5, .ptr 1 []), (6, .own 2), (7, .val (.int .i64))]⟩
def fws : Nat → List (FuncId × FW) := fun k => [(12, ⟨[], 46, (.st (.pair (.int .i64) (.pair .str (.pair .bool (.pair (.st (.pair (.int .i64) (.pair .str (.pair (.int .i64) (.pair (.int .i64) (.pair (.int .i64) (.int .i64))))))) (.int .i64)))))), true, fun (x : Unit) => tokens_New.f k x⟩)]
def ptL : List (Pt (TD [(.list (.st (.pair (.int .i64) (.pair .str (.pair (.int .i64) (.pair (.int .i64) (.pair (.int .i64) (.int .i64)))))))), (.int .i64), (.st (.pair (.int .i64) (.pair .str (.pair (.int .i64) (.pair (.int .i64) (.pair (.int .i64) (.int .i64)))))))])) := [⟨15, s15, fun k (x : (Int × ByteArray × Int × Int × Int × Int) × (Int × ByteArray × Bool × (Int × ByteArray × Int × Int × Int × Int) × Int) × (List (Int × ByteArray × Int × Int × Int × Int)) × Int) => tokens_All.p15 k x.1 x.2.1 x.2.2.1 x.2.2.2⟩]
def fgs : Nat → List (FuncId × FG) := fun k => [(13, ⟨[.obj 46 (.st (.pair (.int .i64) (.pair .str (.pair .bool (.pair (.st (.pair (.int .i64) (.pair .str (.pair (.int .i64) (.pair (.int .i64) (.pair (.int .i64) (.int .i64))))))) (.int .i64)))))), .val .str], [(.list (.st (.pair (.int .i64) (.pair .str (.pair (.int .i64) (.pair (.int .i64) (.pair (.int .i64) (.int .i64)))))))), (.int .i64)], some 25, fun (x : (Int × ByteArray × Bool × (Int × ByteArray × Int × Int × Int × Int) × Int) × ByteArray) => tokens_Scanner_Feed.f k x.1 x.2⟩), (15, ⟨[.obj 46 (.st (.pair (.int .i64) (.pair .str (.pair .bool (.pair (.st (.pair (.int .i64) (.pair .str (.pair (.int .i64) (.pair (.int .i64) (.pair (.int .i64) (.int .i64))))))) (.int .i64))))))], [(.list (.st (.pair (.int .i64) (.pair .str (.pair (.int .i64) (.pair (.int .i64) (.pair (.int .i64) (.int .i64)))))))), (.int .i64)], some 25, fun (x : (Int × ByteArray × Bool × (Int × ByteArray × Int × Int × Int × Int) × Int)) => tokens_Scanner_End.f k x⟩), (19, ⟨[.obj 46 (.st (.pair (.int .i64) (.pair .str (.pair .bool (.pair (.st (.pair (.int .i64) (.pair .str (.pair (.int .i64) (.pair (.int .i64) (.pair (.int .i64) (.int .i64))))))) (.int .i64))))))], [(.st (.pair (.int .i64) (.pair .str (.pair (.int .i64) (.pair (.int .i64) (.pair (.int .i64) (.int .i64)))))))], none, fun (x : (Int × ByteArray × Bool × (Int × ByteArray × Int × Int × Int × Int) × Int)) => tokens_Scanner_At.f k x⟩)]
def fs (k : Nat) : FS := ⟨[.str], [(.list (.st (.pair (.int .i64) (.pair .str (.pair (.int .i64) (.pair (.int .i64) (.pair (.int .i64) (.int .i64)))))))), (.int .i64), (.st (.pair (.int .i64) (.pair .str (.pair (.int .i64) (.pair (.int .i64) (.pair (.int .i64) (.int .i64)))))))], fun (x : ByteArray) => tokens_All.f k x⟩
theorem ok : FnO Tryd.prog 8 34 Tryd.f8 1 := okF _ (by kernel_rfl) (by kernel_rfl)
theorem c (k : Nat) : Contract Tryd.prog 8 (fs k) :=
  fnS [.str] [(.list (.st (.pair (.int .i64) (.pair .str (.pair (.int .i64) (.pair (.int .i64) (.pair (.int .i64) (.int .i64)))))))), (.int .i64), (.st (.pair (.int .i64) (.pair .str (.pair (.int .i64) (.pair (.int .i64) (.pair (.int .i64) (.int .i64)))))))] ptL fns0 fgs fws (fun k (x : ByteArray) => tokens_All.f k x) ok ⟨⟨rfl, fun _ => rfl, fun k x => by kernel_rfl⟩, trivial⟩ (fun k x => by kernel_rfl) (fun k => ⟨trivial, ⟨tokens_Scanner_Feed.c k, tokens_Scanner_End.c k, tokens_Scanner_At.c k, trivial⟩, ⟨tokens_New.cw k, trivial⟩⟩) k
end tokens_All

namespace law12_awake
def ptL : List (Pt (TD [.bool])) := []
def fns : Nat → List (FuncId × FS) := fun k => [(8, tokens_All.fs k)]
def fs (k : Nat) : FS := ⟨[], [.bool], fun (x : Unit) => law12_awake.f k x⟩
theorem ok : FnO Tryd.prog 11 23 Tryd.f11 0 := okF _ (by kernel_rfl) (by kernel_rfl)
theorem c (k : Nat) : Contract Tryd.prog 11 (fs k) :=
  fnS [] [.bool] ptL fns fgs0 fws0 (fun k (x : Unit) => law12_awake.f k x) ok trivial (fun k x => by kernel_rfl) (fun k => ⟨⟨tokens_All.c k, trivial⟩, trivial, trivial⟩) k
end law12_awake

namespace tokens_Plain
def s5 : PSig := ⟨0, [], []⟩
def s0 : PSig := ⟨0, [], [(0, .val .str), (12, .val (.int .i64)), (13, .val (.int .i64))]⟩
def ptL : List (Pt (TD [.bool])) := [⟨5, s5, fun k (x : Unit) => tokens_Plain.p5 k x⟩, ⟨0, s0, fun k (x : ByteArray × Int × Int) => tokens_Plain.p0 k x.1 x.2.1 x.2.2⟩]
def fns : Nat → List (FuncId × FS) := fun k => [(47, tokens_digit.fs k), (48, tokens_sign.fs k)]
def fs (k : Nat) : FS := ⟨[.str], [.bool], fun (x : ByteArray) => tokens_Plain.f k x⟩
theorem ok : FnO Tryd.prog 27 22 Tryd.f27 1 := okF _ (by kernel_rfl) (by kernel_rfl)
theorem c (k : Nat) : Contract Tryd.prog 27 (fs k) :=
  fnS [.str] [.bool] ptL fns fgs0 fws0 (fun k (x : ByteArray) => tokens_Plain.f k x) ok ⟨⟨rfl, fun _ => rfl, fun k x => by kernel_rfl⟩, ⟨rfl, fun _ => rfl, fun k x => by kernel_rfl⟩, trivial⟩ (fun k x => by kernel_rfl) (fun k => ⟨⟨tokens_digit.c k, tokens_sign.c k, trivial⟩, trivial, trivial⟩) k
end tokens_Plain

namespace tokens_Symbol
def s0 : PSig := ⟨0, [(9, itT, true)], [(0, .val .str), (10, .ptr 0 [])]⟩
def s15 : PSig := ⟨0, [], []⟩
def ptL : List (Pt (TD [.str, (.int .i64)])) := [⟨0, s0, fun k (x : (ByteArray × Nat) × ByteArray) => tokens_Symbol.p0 k x.1 x.2⟩, ⟨15, s15, fun k (x : Unit) => tokens_Symbol.p15 k x⟩]
def fns : Nat → List (FuncId × FS) := fun k => [(27, tokens_Plain.fs k), (28, tokens_quotable.fs k)]
def fs (k : Nat) : FS := ⟨[.str], [.str, (.int .i64)], fun (x : ByteArray) => tokens_Symbol.f k x⟩
theorem ok : FnO Tryd.prog 26 28 Tryd.f26 1 := okF _ (by kernel_rfl) (by kernel_rfl)
theorem c (k : Nat) : Contract Tryd.prog 26 (fs k) :=
  fnS [.str] [.str, (.int .i64)] ptL fns fgs0 fws0 (fun k (x : ByteArray) => tokens_Symbol.f k x) ok ⟨⟨rfl, fun _ => rfl, fun k x => by kernel_rfl⟩, ⟨rfl, fun _ => rfl, fun k x => by kernel_rfl⟩, trivial⟩ (fun k x => by kernel_rfl) (fun k => ⟨⟨tokens_Plain.c k, tokens_quotable.c k, trivial⟩, trivial, trivial⟩) k
end tokens_Symbol

namespace tokens_written
def ptL : List (Pt (TD [.str])) := []
def fs (k : Nat) : FS := ⟨[(.st (.pair (.int .i64) (.pair .str (.pair (.int .i64) (.pair (.int .i64) (.pair (.int .i64) (.int .i64)))))))], [.str], fun (x : (Int × ByteArray × Int × Int × Int × Int)) => tokens_written.f k x⟩
theorem ok : FnO Tryd.prog 30 17 Tryd.f30 1 := okF _ (by kernel_rfl) (by kernel_rfl)
theorem c (k : Nat) : Contract Tryd.prog 30 (fs k) :=
  fnS [(.st (.pair (.int .i64) (.pair .str (.pair (.int .i64) (.pair (.int .i64) (.pair (.int .i64) (.int .i64)))))))] [.str] ptL fns0 fgs0 fws0 (fun k (x : (Int × ByteArray × Int × Int × Int × Int)) => tokens_written.f k x) ok trivial (fun k x => by kernel_rfl) (fun _ => ⟨trivial, trivial, trivial⟩) k
end tokens_written

namespace tokens_Print
def s2 : PSig := ⟨0, [(25, (.st (.pair (.int .i64) (.pair .str (.pair (.int .i64) (.pair (.int .i64) (.pair (.int .i64) (.int .i64))))))), true), (9, itT, true)], [(1, .ptr 0 []), (32, .ptr 1 [])]⟩
def s37 : PSig := ⟨0, [], []⟩
def ptL : List (Pt (TD [.str, (.int .i64)])) := [⟨2, s2, fun k (x : (Int × ByteArray × Int × Int × Int × Int) × (ByteArray × Nat)) => tokens_Print.p2 k x.1 x.2⟩, ⟨37, s37, fun k (x : Unit) => tokens_Print.p37 k x⟩]
def fns : Nat → List (FuncId × FS) := fun k => [(26, tokens_Symbol.fs k), (27, tokens_Plain.fs k), (30, tokens_written.fs k), (8, tokens_All.fs k), (28, tokens_quotable.fs k), (29, ⟨[.str, .str, .str], [.str], fun (x : ByteArray × ByteArray × ByteArray) => strings_ReplaceAll.f k x.1 x.2.1 x.2.2⟩)]
def fs (k : Nat) : FS := ⟨[(.st (.pair (.int .i64) (.pair .str (.pair (.int .i64) (.pair (.int .i64) (.pair (.int .i64) (.int .i64)))))))], [.str, (.int .i64)], fun (x : (Int × ByteArray × Int × Int × Int × Int)) => tokens_Print.f k x⟩
theorem ok : FnO Tryd.prog 17 78 Tryd.f17 1 := okF _ (by kernel_rfl) (by kernel_rfl)
theorem c (k : Nat) : Contract Tryd.prog 17 (fs k) :=
  fnS [(.st (.pair (.int .i64) (.pair .str (.pair (.int .i64) (.pair (.int .i64) (.pair (.int .i64) (.int .i64)))))))] [.str, (.int .i64)] ptL fns fgs0 fws0 (fun k (x : (Int × ByteArray × Int × Int × Int × Int)) => tokens_Print.f k x) ok ⟨⟨rfl, fun _ => rfl, fun k x => by kernel_rfl⟩, ⟨rfl, fun _ => rfl, fun k x => by kernel_rfl⟩, trivial⟩ (fun k x => by kernel_rfl) (fun k => ⟨⟨tokens_Symbol.c k, tokens_Plain.c k, tokens_written.c k, tokens_All.c k, tokens_quotable.c k, strings_ReplaceAll.c k, trivial⟩, trivial, trivial⟩) k
end tokens_Print

namespace law12_TokensSpread
def s0 : PSig := ⟨0, [], [(3, .val (.list (.st (.pair (.int .i64) (.pair .str (.pair (.int .i64) (.pair (.int .i64) (.pair (.int .i64) (.int .i64))))))))), (6, .val .str), (7, .val (.int .i64))]⟩
def s29 : PSig := ⟨0, [], []⟩
def s4 : PSig := ⟨0, [], [(3, .val (.list (.st (.pair (.int .i64) (.pair .str (.pair (.int .i64) (.pair (.int .i64) (.pair (.int .i64) (.int .i64))))))))), (10, .val (.list (.st (.pair (.int .i64) (.pair .str (.pair (.int .i64) (.pair (.int .i64) (.pair (.int .i64) (.int .i64))))))))), (13, .val (.int .i64))]⟩
def s39 : PSig := ⟨0, [], []⟩
def ptL : List (Pt (TD [.bool])) := [⟨0, s0, fun k (x : (List (Int × ByteArray × Int × Int × Int × Int)) × ByteArray × Int) => law12_TokensSpread.p0 k x.1 x.2.1 x.2.2⟩, ⟨29, s29, fun k (x : Unit) => law12_TokensSpread.p29 k x⟩, ⟨4, s4, fun k (x : (List (Int × ByteArray × Int × Int × Int × Int)) × (List (Int × ByteArray × Int × Int × Int × Int)) × Int) => law12_TokensSpread.p4 k x.1 x.2.1 x.2.2⟩, ⟨39, s39, fun k (x : Unit) => law12_TokensSpread.p39 k x⟩]
def fns : Nat → List (FuncId × FS) := fun k => [(8, tokens_All.fs k), (11, law12_awake.fs k), (17, tokens_Print.fs k)]
def fs (k : Nat) : FS := ⟨[.str], [.bool], fun (x : ByteArray) => law12_TokensSpread.f k x⟩
theorem ok : FnO Tryd.prog 7 89 Tryd.f7 1 := okF _ (by kernel_rfl) (by kernel_rfl)
theorem c (k : Nat) : Contract Tryd.prog 7 (fs k) :=
  fnS [.str] [.bool] ptL fns fgs0 fws0 (fun k (x : ByteArray) => law12_TokensSpread.f k x) ok ⟨⟨rfl, fun _ => rfl, fun k x => by kernel_rfl⟩, ⟨rfl, fun _ => rfl, fun k x => by kernel_rfl⟩, ⟨rfl, fun _ => rfl, fun k x => by kernel_rfl⟩, ⟨rfl, fun _ => rfl, fun k x => by kernel_rfl⟩, trivial⟩ (fun k x => by kernel_rfl) (fun k => ⟨⟨tokens_All.c k, law12_awake.c k, tokens_Print.c k, trivial⟩, trivial, trivial⟩) k
end law12_TokensSpread
end Go.Proofs.YtijooefmaecigaaDoor
