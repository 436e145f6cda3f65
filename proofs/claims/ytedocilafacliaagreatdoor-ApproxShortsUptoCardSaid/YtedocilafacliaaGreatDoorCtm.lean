/- Contracts, printed by fgen.py. -/
import Derived.Test.YtedocilafacliaaGreatDoorPlm
import Derived.Test.YtedocilafacliaaGreatDoorProg
import Derived.Test.YtedocilafacliaaGreatDoorF2
import Derived.Test.YtedocilafacliaaGreatDoorItom
namespace Go.Proofs.YtedocilafacliaaGreatDoor
open Go.FK
theorem mix : Tryz.prog.follows .mixedOrders = true ∧ ArrsOk Tryz.prog := ⟨by kernel_rfl, arrsB_ok (by kernel_rfl)⟩
def tyTab : List (TypeId × TI) := [(2, ⟨(.int .i64), 0, 0⟩), (3, ⟨(.int .i64), 0, 0⟩), (4, ⟨.bool, 0, 0⟩), (5, ⟨(.int .u8), 0, 0⟩), (9, ⟨.str, 0, 0⟩), (21, ⟨(.int .i32), 0, 0⟩), (22, ⟨.flt, 0, 0⟩), (23, ⟨(.int .i64), 0, 0⟩), (32, ⟨(.list (.int .u32)), 84, 4⟩), (34, ⟨(.st (.pair .bool (.list (.int .u32)))), 0, 0⟩), (36, ⟨(.st (.pair (.st (.pair .bool (.list (.int .u32)))) (.list (.int .u32)))), 0, 0⟩), (45, ⟨(.int .u64), 0, 0⟩), (51, ⟨(.int .u64), 0, 0⟩), (78, ⟨(.st (.pair (.st (.pair .bool (.list (.int .u32)))) (.st (.pair .bool (.list (.int .u32)))))), 34, 2⟩), (84, ⟨(.int .u32), 0, 0⟩), (107, ⟨.nilI, 0, 0⟩), (116, ⟨(.list (.int .i64)), 3, 8⟩), (128, ⟨(.list (.int .u8)), 5, 1⟩)]
theorem tyOk : tysB Tryz.prog tyTab = true := by kernel_rfl

abbrev tL : Ty := .list (.int .u32)
abbrev tZ : Ty := .st (.pair .bool (.list (.int .u32)))
abbrev tQ : Ty := .st (.pair (.st (.pair .bool (.list (.int .u32)))) (.list (.int .u32)))
def fws0 : Nat → List (FuncId × FW) := fun _ => []
def fns0 : Nat → List (FuncId × FS) := fun _ => []
def fgs0 : Nat → List (FuncId × FG) := fun _ => []
abbrev FnO (P : Program) (f : FuncId) (n : Nat) (fn : Func) (np : Nat) : Prop := FnOk P f n fn.results.toList (fn.body.getD .skip) np
theorem okF {P : Program} {f : FuncId} {n np : Nat} (fn : Func) (h : P.funcs[f]? = some fn) (hb : (fn.body.isSome && (fn.ntmps == n && (!(fn.name == "runtime.NumGoroutine") && (Go.FK.distinct (ptsOf 0 (fn.body.getD .skip)) && Nat.ble np n)))) = true) : FnO P f n fn np := by
  simp only [Bool.and_eq_true, Bool.not_eq_true', beq_iff_eq, Nat.ble_eq] at hb
  obtain ⟨h1, h2, h3, h4, h5⟩ := hb
  refine ⟨⟨fn, h, ?_, h2, rfl, h3⟩, h4, h5⟩
  cases hc : fn.body with
  | none => rw [hc] at h1; cases h1
  | some c => rfl
theorem fnS (ps rs : List Ty) (pts : List (Pt (TD rs))) (fns : Nat → List (FuncId × FS)) (fgs : Nat → List (FuncId × FG)) (fws : Nat → List (FuncId × FW)) (main : Nat → TD ps → Option (TD rs)) {f : FuncId} {n : Nat} {rv : List ResultVar} {c : Code} (hf : FnOk Tryz.prog f n rv c ps.length) (hpt : PtsOk (mkE tyTab fns fgs fws pts) 0 n (endK (lookT tyTab) rv rs) c pts) (hmain : ∀ k x, fnK (mkE tyTab fns fgs fws pts k) n rv c (encT ps x) = main k x) (hall : ∀ k, AllK Tryz.prog (fns k) (fgs k) (fws k)) (k : Nat) : Contract Tryz.prog f ⟨ps, rs, main k⟩ := fn_sound hf mix tyOk hpt hmain hall k

namespace math_IsNaN
def ptL : List (Pt (TD [.bool])) := []
def fs (k : Nat) : FS := ⟨[.flt], [.bool], fun (x : Nat) => math_IsNaN.f k x⟩
theorem ok : FnO Tryz.prog 24 6 Tryz.f24 1 := okF _ (by kernel_rfl) (by kernel_rfl)
theorem c (k : Nat) : Contract Tryz.prog 24 (fs k) :=
  fnS [.flt] [.bool] ptL fns0 fgs0 fws0 (fun k (x : Nat) => math_IsNaN.f k x) ok trivial (fun k x => by kernel_rfl) (fun _ => ⟨trivial, trivial, trivial⟩) k
end math_IsNaN

namespace math_Float64bits
theorem c (k : Nat) : Contract Tryz.prog 18 ⟨[.flt], [(.int .u64)], fun (x : Nat) => math_Float64bits.f k x⟩ :=
  float64bits_contract (fn := Tryz.f18) (by kernel_rfl) (by kernel_rfl) (by kernel_rfl) (by kernel_rfl) (by kernel_rfl) (fun _ => rfl)
end math_Float64bits

namespace math_Float64frombits
theorem c (k : Nat) : Contract Tryz.prog 72 ⟨[(.int .u64)], [.flt], fun (x : Int) => math_Float64frombits.f k x⟩ :=
  float64frombits_contract (fn := Tryz.f72) (by kernel_rfl) (by kernel_rfl) (by kernel_rfl) (by kernel_rfl) (by kernel_rfl) (fun _ => rfl)
end math_Float64frombits

namespace math_Abs
def ptL : List (Pt (TD [.flt])) := []
def fns : Nat → List (FuncId × FS) := fun k => [(18, ⟨[.flt], [(.int .u64)], fun (x : Nat) => math_Float64bits.f k x⟩), (72, ⟨[(.int .u64)], [.flt], fun (x : Int) => math_Float64frombits.f k x⟩)]
def fs (k : Nat) : FS := ⟨[.flt], [.flt], fun (x : Nat) => math_Abs.f k x⟩
theorem ok : FnO Tryz.prog 55 7 Tryz.f55 1 := okF _ (by kernel_rfl) (by kernel_rfl)
theorem c (k : Nat) : Contract Tryz.prog 55 (fs k) :=
  fnS [.flt] [.flt] ptL fns fgs0 fws0 (fun k (x : Nat) => math_Abs.f k x) ok trivial (fun k x => by kernel_rfl) (fun k => ⟨⟨math_Float64bits.c k, math_Float64frombits.c k, trivial⟩, trivial, trivial⟩) k
end math_Abs

namespace math_IsInf
def s11 : PSig := ⟨0, [], [(0, .val .flt)]⟩
def ptL : List (Pt (TD [.bool])) := [⟨11, s11, fun k (x : Nat) => math_IsInf.p11 k x⟩]
def fns : Nat → List (FuncId × FS) := fun k => [(55, math_Abs.fs k)]
def fs (k : Nat) : FS := ⟨[.flt, (.int .i64)], [.bool], fun (x : Nat × Int) => math_IsInf.f k x.1 x.2⟩
theorem ok : FnO Tryz.prog 25 15 Tryz.f25 2 := okF _ (by kernel_rfl) (by kernel_rfl)
theorem c (k : Nat) : Contract Tryz.prog 25 (fs k) :=
  fnS [.flt, (.int .i64)] [.bool] ptL fns fgs0 fws0 (fun k (x : Nat × Int) => math_IsInf.f k x.1 x.2) ok ⟨⟨rfl, fun _ => rfl, fun k x => by kernel_rfl⟩, trivial⟩ (fun k x => by kernel_rfl) (fun k => ⟨⟨math_Abs.c k, trivial⟩, trivial, trivial⟩) k
end math_IsInf

namespace nat_trim
def s0 : PSig := ⟨0, [], [(0, .val tL), (3, .val (.int .i64))]⟩
def s9 : PSig := ⟨0, [], [(0, .val tL), (3, .val (.int .i64))]⟩
def ptL : List (Pt (TD [tL])) := [⟨0, s0, fun k (x : LX × Int) => nat_trim.p0 k x.1 x.2⟩, ⟨9, s9, fun k (x : LX × Int) => nat_trim.p9 k x.1 x.2⟩]
def fs (k : Nat) : FS := ⟨[tL], [tL], fun (x : LX) => nat_trim.f k x⟩
theorem ok : FnO Tryz.prog 97 21 Tryz.f97 1 := okF _ (by kernel_rfl) (by kernel_rfl)
theorem c (k : Nat) : Contract Tryz.prog 97 (fs k) :=
  fnS [tL] [tL] ptL fns0 fgs0 fws0 (fun k (x : LX) => nat_trim.f k x) ok ⟨⟨rfl, fun _ => rfl, fun k x => by kernel_rfl⟩, ⟨rfl, fun _ => rfl, fun k x => by kernel_rfl⟩, trivial⟩ (fun k x => by kernel_rfl) (fun _ => ⟨trivial, trivial, trivial⟩) k
end nat_trim

namespace nat_own
def ptL : List (Pt (TD [tL])) := []
def fns : Nat → List (FuncId × FS) := fun k => [(97, nat_trim.fs k)]
def fs (k : Nat) : FS := ⟨[tL], [tL], fun (x : LX) => nat_own.f k x⟩
theorem ok : FnO Tryz.prog 56 16 Tryz.f56 1 := okF _ (by kernel_rfl) (by kernel_rfl)
theorem c (k : Nat) : Contract Tryz.prog 56 (fs k) :=
  fnS [tL] [tL] ptL fns fgs0 fws0 (fun k (x : LX) => nat_own.f k x) ok trivial (fun k x => by kernel_rfl) (fun k => ⟨⟨nat_trim.c k, trivial⟩, trivial, trivial⟩) k
def fw (k : Nat) : FW := ⟨[tL], 84, (.int .u32), false, fun (x : LX) => nat_own.f k x⟩
def ptW : List (Pt (List (Ty.D (.int .u32)))) := []
theorem cw (k : Nat) : ContractW Tryz.prog 56 (fw k) :=
  fn_soundW (ps := [tL]) (e := 84) (t := (.int .u32)) (bx := false) (pts := ptW) (fns := fns) (fgs := fgs0) (fws := fws0) (tys := tyTab) (main := fun k (x : LX) => nat_own.f k x) ok mix tyOk trivial (fun k x => by kernel_rfl) (fun k => ⟨⟨nat_trim.c k, trivial⟩, trivial, trivial⟩) k
end nat_own

namespace nat_Of
def ptL : List (Pt (TD [tL])) := []
def fns : Nat → List (FuncId × FS) := fun k => [(56, nat_own.fs k)]
def fs (k : Nat) : FS := ⟨[(.int .u64)], [tL], fun (x : Int) => nat_Of.f k x⟩
theorem ok : FnO Tryz.prog 26 10 Tryz.f26 1 := okF _ (by kernel_rfl) (by kernel_rfl)
theorem c (k : Nat) : Contract Tryz.prog 26 (fs k) :=
  fnS [(.int .u64)] [tL] ptL fns fgs0 fws0 (fun k (x : Int) => nat_Of.f k x) ok trivial (fun k x => by kernel_rfl) (fun k => ⟨⟨nat_own.c k, trivial⟩, trivial, trivial⟩) k
end nat_Of

namespace nat_Norm
def ptL : List (Pt (TD [tL])) := []
def fns : Nat → List (FuncId × FS) := fun k => [(56, nat_own.fs k)]
def fs (k : Nat) : FS := ⟨[tL], [tL], fun (x : LX) => nat_Norm.f k x⟩
theorem ok : FnO Tryz.prog 102 5 Tryz.f102 1 := okF _ (by kernel_rfl) (by kernel_rfl)
theorem c (k : Nat) : Contract Tryz.prog 102 (fs k) :=
  fnS [tL] [tL] ptL fns fgs0 fws0 (fun k (x : LX) => nat_Norm.f k x) ok trivial (fun k x => by kernel_rfl) (fun k => ⟨⟨nat_own.c k, trivial⟩, trivial, trivial⟩) k
end nat_Norm

namespace whole_signed
def s0 : PSig := ⟨0, [(34, tZ, true)], [(0, .val tL), (4, .ptr 0 []), (5, .val (.int .i64)), (10, .val (.list (.int .i64))), (11, .val (.int .i64)), (12, .val (.int .i64))]⟩
def ptL : List (Pt (TD [tZ])) := [⟨0, s0, fun k (x : ZX × LX × Int × LX × Int × Int) => whole_signed.p0 k x.1 x.2.1 x.2.2.1 x.2.2.2.1 x.2.2.2.2.1 x.2.2.2.2.2⟩]
def fns : Nat → List (FuncId × FS) := fun k => [(102, nat_Norm.fs k)]
def fs (k : Nat) : FS := ⟨[tL, (.list (.int .i64))], [tZ], fun (x : LX × LX) => whole_signed.f k x.1 x.2⟩
theorem ok : FnO Tryz.prog 60 29 Tryz.f60 2 := okF _ (by kernel_rfl) (by kernel_rfl)
theorem c (k : Nat) : Contract Tryz.prog 60 (fs k) :=
  fnS [tL, (.list (.int .i64))] [tZ] ptL fns fgs0 fws0 (fun k (x : LX × LX) => whole_signed.f k x.1 x.2) ok ⟨⟨rfl, fun _ => rfl, fun k x => by kernel_rfl⟩, trivial⟩ (fun k x => by kernel_rfl) (fun k => ⟨⟨nat_Norm.c k, trivial⟩, trivial, trivial⟩) k
end whole_signed

namespace whole_Of
def ptL : List (Pt (TD [tZ])) := []
def fns : Nat → List (FuncId × FS) := fun k => [(26, nat_Of.fs k), (60, whole_signed.fs k)]
def fs (k : Nat) : FS := ⟨[(.int .i64)], [tZ], fun (x : Int) => whole_Of.f k x⟩
theorem ok : FnO Tryz.prog 28 15 Tryz.f28 1 := okF _ (by kernel_rfl) (by kernel_rfl)
theorem c (k : Nat) : Contract Tryz.prog 28 (fs k) :=
  fnS [(.int .i64)] [tZ] ptL fns fgs0 fws0 (fun k (x : Int) => whole_Of.f k x) ok trivial (fun k x => by kernel_rfl) (fun k => ⟨⟨nat_Of.c k, whole_signed.c k, trivial⟩, trivial, trivial⟩) k
end whole_Of

namespace whole_core
def s0 : PSig := ⟨0, [], [(0, .val tL), (3, .val (.int .i64))]⟩
def s9 : PSig := ⟨0, [], [(0, .val tL), (3, .val (.int .i64))]⟩
def ptL : List (Pt (TD [tL])) := [⟨0, s0, fun k (x : LX × Int) => whole_core.p0 k x.1 x.2⟩, ⟨9, s9, fun k (x : LX × Int) => whole_core.p9 k x.1 x.2⟩]
def fs (k : Nat) : FS := ⟨[tL], [tL], fun (x : LX) => whole_core.f k x⟩
theorem ok : FnO Tryz.prog 98 22 Tryz.f98 1 := okF _ (by kernel_rfl) (by kernel_rfl)
theorem c (k : Nat) : Contract Tryz.prog 98 (fs k) :=
  fnS [tL] [tL] ptL fns0 fgs0 fws0 (fun k (x : LX) => whole_core.f k x) ok ⟨⟨rfl, fun _ => rfl, fun k x => by kernel_rfl⟩, ⟨rfl, fun _ => rfl, fun k x => by kernel_rfl⟩, trivial⟩ (fun k x => by kernel_rfl) (fun _ => ⟨trivial, trivial, trivial⟩) k
end whole_core

namespace whole_Sign
def ptL : List (Pt (TD [(.int .i64)])) := []
def fns : Nat → List (FuncId × FS) := fun k => [(98, whole_core.fs k)]
def fs (k : Nat) : FS := ⟨[tZ], [(.int .i64)], fun (x : ZX) => whole_Sign.f k x⟩
theorem ok : FnO Tryz.prog 57 12 Tryz.f57 1 := okF _ (by kernel_rfl) (by kernel_rfl)
theorem c (k : Nat) : Contract Tryz.prog 57 (fs k) :=
  fnS [tZ] [(.int .i64)] ptL fns fgs0 fws0 (fun k (x : ZX) => whole_Sign.f k x) ok trivial (fun k x => by kernel_rfl) (fun k => ⟨⟨whole_core.c k, trivial⟩, trivial, trivial⟩) k
end whole_Sign

namespace whole_Neg
def ptL : List (Pt (TD [tZ])) := []
def fns : Nat → List (FuncId × FS) := fun k => [(57, whole_Sign.fs k), (60, whole_signed.fs k)]
def fs (k : Nat) : FS := ⟨[tZ], [tZ], fun (x : ZX) => whole_Neg.f k x⟩
theorem ok : FnO Tryz.prog 58 9 Tryz.f58 1 := okF _ (by kernel_rfl) (by kernel_rfl)
theorem c (k : Nat) : Contract Tryz.prog 58 (fs k) :=
  fnS [tZ] [tZ] ptL fns fgs0 fws0 (fun k (x : ZX) => whole_Neg.f k x) ok trivial (fun k x => by kernel_rfl) (fun k => ⟨⟨whole_Sign.c k, whole_signed.c k, trivial⟩, trivial, trivial⟩) k
end whole_Neg

namespace nat_Cmp
def s0 : PSig := ⟨0, [], [(0, .val tL), (1, .val tL), (5, .val (.int .i64))]⟩
def ptL : List (Pt (TD [(.int .i64)])) := [⟨0, s0, fun k (x : LX × LX × Int) => nat_Cmp.p0 k x.1 x.2.1 x.2.2⟩]
def fns : Nat → List (FuncId × FS) := fun k => [(97, nat_trim.fs k)]
def fs (k : Nat) : FS := ⟨[tL, tL], [(.int .i64)], fun (x : LX × LX) => nat_Cmp.f k x.1 x.2⟩
theorem ok : FnO Tryz.prog 69 45 Tryz.f69 2 := okF _ (by kernel_rfl) (by kernel_rfl)
theorem c (k : Nat) : Contract Tryz.prog 69 (fs k) :=
  fnS [tL, tL] [(.int .i64)] ptL fns fgs0 fws0 (fun k (x : LX × LX) => nat_Cmp.f k x.1 x.2) ok ⟨⟨rfl, fun _ => rfl, fun k x => by kernel_rfl⟩, trivial⟩ (fun k x => by kernel_rfl) (fun k => ⟨⟨nat_trim.c k, trivial⟩, trivial, trivial⟩) k
end nat_Cmp

namespace bits_Div32
def s7 : PSig := ⟨0, [], [(0, .val (.int .u32)), (1, .val (.int .u32)), (2, .val (.int .u32))]⟩
def ptL : List (Pt (TD [(.int .u32), (.int .u32)])) := [⟨7, s7, fun k (x : Int × Int × Int) => bits_Div32.p7 k x.1 x.2.1 x.2.2⟩]
def fs (k : Nat) : FS := ⟨[(.int .u32), (.int .u32), (.int .u32)], [(.int .u32), (.int .u32)], fun (x : Int × Int × Int) => bits_Div32.f k x.1 x.2.1 x.2.2⟩
theorem ok : FnO Tryz.prog 143 33 Tryz.f143 3 := okF _ (by kernel_rfl) (by kernel_rfl)
theorem c (k : Nat) : Contract Tryz.prog 143 (fs k) :=
  fnS [(.int .u32), (.int .u32), (.int .u32)] [(.int .u32), (.int .u32)] ptL fns0 fgs0 fws0 (fun k (x : Int × Int × Int) => bits_Div32.f k x.1 x.2.1 x.2.2) ok ⟨⟨rfl, fun _ => rfl, fun k x => by kernel_rfl⟩, trivial⟩ (fun k x => by kernel_rfl) (fun _ => ⟨trivial, trivial, trivial⟩) k
end bits_Div32

namespace nat_short
def s0 : PSig := ⟨0, [(84, (.int .u32), false)], [(0, .val tL), (1, .val (.int .u32)), (6, .own 0), (7, .val (.int .u32)), (8, .val (.int .i64))]⟩
def ptL : List (Pt (TD [tL, (.int .u32)])) := [⟨0, s0, fun k (x : LX × LX × Int × Int × Int) => nat_short.p0 k x.1 x.2.1 x.2.2.1 x.2.2.2.1 x.2.2.2.2⟩]
def fns : Nat → List (FuncId × FS) := fun k => [(143, bits_Div32.fs k)]
def fs (k : Nat) : FS := ⟨[tL, (.int .u32)], [tL, (.int .u32)], fun (x : LX × Int) => nat_short.f k x.1 x.2⟩
theorem ok : FnO Tryz.prog 126 34 Tryz.f126 2 := okF _ (by kernel_rfl) (by kernel_rfl)
theorem c (k : Nat) : Contract Tryz.prog 126 (fs k) :=
  fnS [tL, (.int .u32)] [tL, (.int .u32)] ptL fns fgs0 fws0 (fun k (x : LX × Int) => nat_short.f k x.1 x.2) ok ⟨⟨rfl, fun _ => rfl, fun k x => by kernel_rfl⟩, trivial⟩ (fun k x => by kernel_rfl) (fun k => ⟨⟨bits_Div32.c k, trivial⟩, trivial, trivial⟩) k
end nat_short

namespace bits_Len32
def s9 : PSig := ⟨0, [], [(0, .val (.int .u32)), (2, .val (.int .i64))]⟩
def s15 : PSig := ⟨0, [], [(0, .val (.int .u32)), (2, .val (.int .i64))]⟩
def ptL : List (Pt (TD [(.int .i64)])) := [⟨9, s9, fun k (x : Int × Int) => bits_Len32.p9 k x.1 x.2⟩, ⟨15, s15, fun k (x : Int × Int) => bits_Len32.p15 k x.1 x.2⟩]
def fs (k : Nat) : FS := ⟨[(.int .u32)], [(.int .i64)], fun (x : Int) => bits_Len32.f k x⟩
theorem ok : FnO Tryz.prog 104 19 Tryz.f104 1 := okF _ (by kernel_rfl) (by kernel_rfl)
theorem c (k : Nat) : Contract Tryz.prog 104 (fs k) :=
  fnS [(.int .u32)] [(.int .i64)] ptL fns0 fgs0 fws0 (fun k (x : Int) => bits_Len32.f k x) ok ⟨⟨rfl, fun _ => rfl, fun k x => by kernel_rfl⟩, ⟨rfl, fun _ => rfl, fun k x => by kernel_rfl⟩, trivial⟩ (fun k x => by kernel_rfl) (fun _ => ⟨trivial, trivial, trivial⟩) k
end bits_Len32

namespace bits_LeadingZeros32
def ptL : List (Pt (TD [(.int .i64)])) := []
def fns : Nat → List (FuncId × FS) := fun k => [(104, bits_Len32.fs k)]
def fs (k : Nat) : FS := ⟨[(.int .u32)], [(.int .i64)], fun (x : Int) => bits_LeadingZeros32.f k x⟩
theorem ok : FnO Tryz.prog 146 6 Tryz.f146 1 := okF _ (by kernel_rfl) (by kernel_rfl)
theorem c (k : Nat) : Contract Tryz.prog 146 (fs k) :=
  fnS [(.int .u32)] [(.int .i64)] ptL fns fgs0 fws0 (fun k (x : Int) => bits_LeadingZeros32.f k x) ok trivial (fun k x => by kernel_rfl) (fun k => ⟨⟨bits_Len32.c k, trivial⟩, trivial, trivial⟩) k
end bits_LeadingZeros32

namespace nat_moved
def s0 : PSig := ⟨0, [(84, (.int .u32), false)], [(0, .val tL), (1, .val (.int .i64)), (5, .own 0), (12, .val (.int .i64)), (13, .val (.int .i64))]⟩
def ptL : List (Pt (TD [tL])) := [⟨0, s0, fun k (x : LX × LX × Int × Int × Int) => nat_moved.p0 k x.1 x.2.1 x.2.2.1 x.2.2.2.1 x.2.2.2.2⟩]
def fs (k : Nat) : FS := ⟨[tL, (.int .i64)], [tL], fun (x : LX × Int) => nat_moved.f k x.1 x.2⟩
theorem ok : FnO Tryz.prog 103 43 Tryz.f103 2 := okF _ (by kernel_rfl) (by kernel_rfl)
theorem c (k : Nat) : Contract Tryz.prog 103 (fs k) :=
  fnS [tL, (.int .i64)] [tL] ptL fns0 fgs0 fws0 (fun k (x : LX × Int) => nat_moved.f k x.1 x.2) ok ⟨⟨rfl, fun _ => rfl, fun k x => by kernel_rfl⟩, trivial⟩ (fun k x => by kernel_rfl) (fun _ => ⟨trivial, trivial, trivial⟩) k
def fw (k : Nat) : FW := ⟨[tL, (.int .i64)], 84, (.int .u32), false, fun (x : LX × Int) => nat_moved.f k x.1 x.2⟩
def ptW : List (Pt (List (Ty.D (.int .u32)))) := [⟨0, s0, fun k (x : LX × LX × Int × Int × Int) => nat_moved.p0 k x.1 x.2.1 x.2.2.1 x.2.2.2.1 x.2.2.2.2⟩]
theorem cw (k : Nat) : ContractW Tryz.prog 103 (fw k) :=
  fn_soundW (ps := [tL, (.int .i64)]) (e := 84) (t := (.int .u32)) (bx := false) (pts := ptW) (fns := fns0) (fgs := fgs0) (fws := fws0) (tys := tyTab) (main := fun k (x : LX × Int) => nat_moved.f k x.1 x.2) ok mix tyOk ⟨⟨rfl, fun _ => rfl, fun k x => by kernel_rfl⟩, trivial⟩ (fun k x => by kernel_rfl) (fun _ => ⟨trivial, trivial, trivial⟩) k
end nat_moved

namespace bits_Sub32
def ptL : List (Pt (TD [(.int .u32), (.int .u32)])) := []
def fs (k : Nat) : FS := ⟨[(.int .u32), (.int .u32), (.int .u32)], [(.int .u32), (.int .u32)], fun (x : Int × Int × Int) => bits_Sub32.f k x.1 x.2.1 x.2.2⟩
theorem ok : FnO Tryz.prog 125 25 Tryz.f125 3 := okF _ (by kernel_rfl) (by kernel_rfl)
theorem c (k : Nat) : Contract Tryz.prog 125 (fs k) :=
  fnS [(.int .u32), (.int .u32), (.int .u32)] [(.int .u32), (.int .u32)] ptL fns0 fgs0 fws0 (fun k (x : Int × Int × Int) => bits_Sub32.f k x.1 x.2.1 x.2.2) ok trivial (fun k x => by kernel_rfl) (fun _ => ⟨trivial, trivial, trivial⟩) k
end bits_Sub32

namespace bits_Add32
def ptL : List (Pt (TD [(.int .u32), (.int .u32)])) := []
def fs (k : Nat) : FS := ⟨[(.int .u32), (.int .u32), (.int .u32)], [(.int .u32), (.int .u32)], fun (x : Int × Int × Int) => bits_Add32.f k x.1 x.2.1 x.2.2⟩
theorem ok : FnO Tryz.prog 105 22 Tryz.f105 3 := okF _ (by kernel_rfl) (by kernel_rfl)
theorem c (k : Nat) : Contract Tryz.prog 105 (fs k) :=
  fnS [(.int .u32), (.int .u32), (.int .u32)] [(.int .u32), (.int .u32)] ptL fns0 fgs0 fws0 (fun k (x : Int × Int × Int) => bits_Add32.f k x.1 x.2.1 x.2.2) ok trivial (fun k x => by kernel_rfl) (fun _ => ⟨trivial, trivial, trivial⟩) k
end bits_Add32

namespace nat_digit
def s0 : PSig := ⟨1, [(84, (.int .u32), false)], [(0, .win 0), (1, .val tL), (5, .val (.int .i64)), (7, .val (.int .u64)), (8, .val (.int .u64))]⟩
def s11 : PSig := ⟨1, [(84, (.int .u32), false)], [(0, .win 0), (1, .val tL), (5, .val (.int .i64)), (7, .val (.int .u64)), (8, .val (.int .u64))]⟩
def s4 : PSig := ⟨1, [(84, (.int .u32), false)], [(0, .win 0), (1, .val tL), (5, .val (.int .i64)), (7, .val (.int .u64)), (9, .val (.int .u32)), (10, .val (.int .u64)), (82, .val (.int .i64)), (83, .val (.int .i64))]⟩
def s8 : PSig := ⟨1, [(84, (.int .u32), false)], [(0, .win 0), (1, .val tL), (5, .val (.int .i64)), (7, .val (.int .u64)), (13, .val (.int .u32)), (130, .val (.int .i64)), (131, .val (.int .i64))]⟩
def ptL : List (Pt (TD ([.win 84 (.int .u32), .val tL].flatMap PK.outs ++ [(.int .u32)]))) := [⟨0, s0, fun k (x : LX × Nat × Nat × LX × Int × Int × Int) => nat_digit.p0 k x.1 x.2.1 x.2.2.1 x.2.2.2.1 x.2.2.2.2.1 x.2.2.2.2.2.1 x.2.2.2.2.2.2⟩, ⟨11, s11, fun k (x : LX × Nat × Nat × LX × Int × Int × Int) => nat_digit.p11 k x.1 x.2.1 x.2.2.1 x.2.2.2.1 x.2.2.2.2.1 x.2.2.2.2.2.1 x.2.2.2.2.2.2⟩, ⟨4, s4, fun k (x : LX × Nat × Nat × LX × Int × Int × Int × Int × Int × Int) => nat_digit.p4 k x.1 x.2.1 x.2.2.1 x.2.2.2.1 x.2.2.2.2.1 x.2.2.2.2.2.1 x.2.2.2.2.2.2.1 x.2.2.2.2.2.2.2.1 x.2.2.2.2.2.2.2.2.1 x.2.2.2.2.2.2.2.2.2⟩, ⟨8, s8, fun k (x : LX × Nat × Nat × LX × Int × Int × Int × Int × Int) => nat_digit.p8 k x.1 x.2.1 x.2.2.1 x.2.2.2.1 x.2.2.2.2.1 x.2.2.2.2.2.1 x.2.2.2.2.2.2.1 x.2.2.2.2.2.2.2.1 x.2.2.2.2.2.2.2.2⟩]
def fns : Nat → List (FuncId × FS) := fun k => [(125, bits_Sub32.fs k), (105, bits_Add32.fs k)]
def fg (k : Nat) : FG := ⟨[.win 84 (.int .u32), .val tL], [(.int .u32)], fun (x : LX × Nat × Nat × LX) => nat_digit.f k x.1 x.2.1 x.2.2.1 x.2.2.2⟩
theorem ok : FnO Tryz.prog 147 160 Tryz.f147 2 := okF _ (by kernel_rfl) (by kernel_rfl)
theorem c (k : Nat) : ContractG Tryz.prog 147 (fg k) :=
  fn_soundG (ps := [.win 84 (.int .u32), .val tL]) (rs := [(.int .u32)]) (pts := ptL) (fns := fns) (fgs := fgs0) (fws := fws0) (tys := tyTab) (main := fun k (x : LX × Nat × Nat × LX) => nat_digit.f k x.1 x.2.1 x.2.2.1 x.2.2.2) ok rfl mix tyOk ⟨⟨rfl, fun _ => rfl, fun k x => by kernel_rfl⟩, ⟨rfl, fun _ => rfl, fun k x => by kernel_rfl⟩, ⟨rfl, fun _ => rfl, fun k x => by kernel_rfl⟩, ⟨rfl, fun _ => rfl, fun k x => by kernel_rfl⟩, trivial⟩ (fun k x => by kernel_rfl) (fun k => ⟨⟨bits_Sub32.c k, bits_Add32.c k, trivial⟩, trivial, trivial⟩) k
end nat_digit

namespace nat_long
def s0 : PSig := ⟨0, [(84, (.int .u32), false), (84, (.int .u32), false)], [(6, .val (.int .i64)), (7, .val tL), (8, .own 0), (9, .val (.int .i64)), (10, .own 1), (11, .val (.int .i64))]⟩
def s4 : PSig := ⟨0, [(84, (.int .u32), false), (84, (.int .u32), false), (84, (.int .u32), false)], [(6, .val (.int .i64)), (8, .own 0), (10, .own 1), (12, .own 2), (60, .val (.int .i64)), (61, .val (.int .i64))]⟩
def fws : Nat → List (FuncId × FW) := fun k => [(103, ⟨[tL, (.int .i64)], 84, (.int .u32), false, fun (x : LX × Int) => nat_moved.f k x.1 x.2⟩), (56, ⟨[tL], 84, (.int .u32), false, fun (x : LX) => nat_own.f k x⟩)]
def ptL : List (Pt (TD [tL, tL])) := [⟨0, s0, fun k (x : LX × LX × Int × LX × Int × Int) => nat_long.p0 k x.1 x.2.1 x.2.2.1 x.2.2.2.1 x.2.2.2.2.1 x.2.2.2.2.2⟩, ⟨4, s4, fun k (x : LX × LX × LX × Int × Int × Int) => nat_long.p4 k x.1 x.2.1 x.2.2.1 x.2.2.2.1 x.2.2.2.2.1 x.2.2.2.2.2⟩]
def fns : Nat → List (FuncId × FS) := fun k => [(146, bits_LeadingZeros32.fs k)]
def fgs : Nat → List (FuncId × FG) := fun k => [(147, ⟨[.win 84 (.int .u32), .val tL], [(.int .u32)], fun (x : LX × Nat × Nat × LX) => nat_digit.f k x.1 x.2.1 x.2.2.1 x.2.2.2⟩)]
def fs (k : Nat) : FS := ⟨[tL, tL], [tL, tL], fun (x : LX × LX) => nat_long.f k x.1 x.2⟩
theorem ok : FnO Tryz.prog 131 89 Tryz.f131 2 := okF _ (by kernel_rfl) (by kernel_rfl)
theorem c (k : Nat) : Contract Tryz.prog 131 (fs k) :=
  fnS [tL, tL] [tL, tL] ptL fns fgs fws (fun k (x : LX × LX) => nat_long.f k x.1 x.2) ok ⟨⟨rfl, fun _ => rfl, fun k x => by kernel_rfl⟩, ⟨rfl, fun _ => rfl, fun k x => by kernel_rfl⟩, trivial⟩ (fun k x => by kernel_rfl) (fun k => ⟨⟨bits_LeadingZeros32.c k, trivial⟩, ⟨nat_digit.c k, trivial⟩, ⟨nat_moved.cw k, nat_own.cw k, trivial⟩⟩) k
end nat_long

namespace nat_Div
def ptL : List (Pt (TD [tL, tL, (.int .i64)])) := []
def fns : Nat → List (FuncId × FS) := fun k => [(97, nat_trim.fs k), (69, nat_Cmp.fs k), (56, nat_own.fs k), (126, nat_short.fs k), (131, nat_long.fs k)]
def fs (k : Nat) : FS := ⟨[tL, tL], [tL, tL, (.int .i64)], fun (x : LX × LX) => nat_Div.f k x.1 x.2⟩
theorem ok : FnO Tryz.prog 100 51 Tryz.f100 2 := okF _ (by kernel_rfl) (by kernel_rfl)
theorem c (k : Nat) : Contract Tryz.prog 100 (fs k) :=
  fnS [tL, tL] [tL, tL, (.int .i64)] ptL fns fgs0 fws0 (fun k (x : LX × LX) => nat_Div.f k x.1 x.2) ok trivial (fun k x => by kernel_rfl) (fun k => ⟨⟨nat_trim.c k, nat_Cmp.c k, nat_own.c k, nat_short.c k, nat_long.c k, trivial⟩, trivial, trivial⟩) k
end nat_Div

namespace nat_Gcd
def s0 : PSig := ⟨0, [], [(0, .val tL), (1, .val tL)]⟩
def ptL : List (Pt (TD [tL])) := [⟨0, s0, fun k (x : LX × LX) => nat_Gcd.p0 k x.1 x.2⟩]
def fns : Nat → List (FuncId × FS) := fun k => [(56, nat_own.fs k), (100, nat_Div.fs k)]
def fs (k : Nat) : FS := ⟨[tL, tL], [tL], fun (x : LX × LX) => nat_Gcd.f k x.1 x.2⟩
theorem ok : FnO Tryz.prog 99 25 Tryz.f99 2 := okF _ (by kernel_rfl) (by kernel_rfl)
theorem c (k : Nat) : Contract Tryz.prog 99 (fs k) :=
  fnS [tL, tL] [tL] ptL fns fgs0 fws0 (fun k (x : LX × LX) => nat_Gcd.f k x.1 x.2) ok ⟨⟨rfl, fun _ => rfl, fun k x => by kernel_rfl⟩, trivial⟩ (fun k x => by kernel_rfl) (fun k => ⟨⟨nat_own.c k, nat_Div.c k, trivial⟩, trivial, trivial⟩) k
end nat_Gcd

namespace whole_Norm
def ptL : List (Pt (TD [tZ])) := []
def fns : Nat → List (FuncId × FS) := fun k => [(57, whole_Sign.fs k), (60, whole_signed.fs k)]
def fs (k : Nat) : FS := ⟨[tZ], [tZ], fun (x : ZX) => whole_Norm.f k x⟩
theorem ok : FnO Tryz.prog 101 9 Tryz.f101 1 := okF _ (by kernel_rfl) (by kernel_rfl)
theorem c (k : Nat) : Contract Tryz.prog 101 (fs k) :=
  fnS [tZ] [tZ] ptL fns fgs0 fws0 (fun k (x : ZX) => whole_Norm.f k x) ok trivial (fun k x => by kernel_rfl) (fun k => ⟨⟨whole_Sign.c k, whole_signed.c k, trivial⟩, trivial, trivial⟩) k
end whole_Norm

namespace ratio_made
def ptL : List (Pt (TD [tQ])) := []
def fns : Nat → List (FuncId × FS) := fun k => [(99, nat_Gcd.fs k), (100, nat_Div.fs k), (101, whole_Norm.fs k)]
def fs (k : Nat) : FS := ⟨[tZ, tL], [tQ], fun (x : ZX × LX) => ratio_made.f k x.1 x.2⟩
theorem ok : FnO Tryz.prog 59 38 Tryz.f59 2 := okF _ (by kernel_rfl) (by kernel_rfl)
theorem c (k : Nat) : Contract Tryz.prog 59 (fs k) :=
  fnS [tZ, tL] [tQ] ptL fns fgs0 fws0 (fun k (x : ZX × LX) => ratio_made.f k x.1 x.2) ok trivial (fun k x => by kernel_rfl) (fun k => ⟨⟨nat_Gcd.c k, nat_Div.c k, whole_Norm.c k, trivial⟩, trivial, trivial⟩) k
end ratio_made

namespace ratio_Of
def s11 : PSig := ⟨0, [(34, tZ, true), (34, tZ, true), (36, tQ, true)], [(2, .ptr 0 []), (3, .ptr 1 []), (4, .ptr 2 [])]⟩
def ptL : List (Pt (TD [tQ, (.int .i64)])) := [⟨11, s11, fun k (x : ZX × ZX × RX) => ratio_Of.p11 k x.1 x.2.1 x.2.2⟩]
def fns : Nat → List (FuncId × FS) := fun k => [(57, whole_Sign.fs k), (58, whole_Neg.fs k), (59, ratio_made.fs k)]
def fs (k : Nat) : FS := ⟨[tZ, tZ], [tQ, (.int .i64)], fun (x : ZX × ZX) => ratio_Of.f k x.1 x.2⟩
theorem ok : FnO Tryz.prog 27 19 Tryz.f27 2 := okF _ (by kernel_rfl) (by kernel_rfl)
theorem c (k : Nat) : Contract Tryz.prog 27 (fs k) :=
  fnS [tZ, tZ] [tQ, (.int .i64)] ptL fns fgs0 fws0 (fun k (x : ZX × ZX) => ratio_Of.f k x.1 x.2) ok ⟨⟨rfl, fun _ => rfl, fun k x => by kernel_rfl⟩, trivial⟩ (fun k x => by kernel_rfl) (fun k => ⟨⟨whole_Sign.c k, whole_Neg.c k, ratio_made.c k, trivial⟩, trivial, trivial⟩) k
end ratio_Of

namespace nat_Shift
def s5 : PSig := ⟨0, [], []⟩
def s0 : PSig := ⟨0, [(84, (.int .u32), false)], [(0, .val tL), (8, .val (.int .i64)), (9, .own 0), (56, .val (.int .i64)), (57, .val (.int .i64))]⟩
def s39 : PSig := ⟨0, [(84, (.int .u32), false)], [(0, .val tL), (8, .val (.int .i64)), (9, .own 0), (56, .val (.int .i64)), (57, .val (.int .i64))]⟩
def ptL : List (Pt (TD [tL, (.int .i64)])) := [⟨5, s5, fun k (x : Unit) => nat_Shift.p5 k x⟩, ⟨0, s0, fun k (x : LX × LX × Int × Int × Int) => nat_Shift.p0 k x.1 x.2.1 x.2.2.1 x.2.2.2.1 x.2.2.2.2⟩, ⟨39, s39, fun k (x : LX × LX × Int × Int × Int) => nat_Shift.p39 k x.1 x.2.1 x.2.2.1 x.2.2.2.1 x.2.2.2.2⟩]
def fns : Nat → List (FuncId × FS) := fun k => [(97, nat_trim.fs k), (103, nat_moved.fs k), (56, nat_own.fs k)]
def fs (k : Nat) : FS := ⟨[tL, (.int .i64)], [tL, (.int .i64)], fun (x : LX × Int) => nat_Shift.f k x.1 x.2⟩
theorem ok : FnO Tryz.prog 64 93 Tryz.f64 2 := okF _ (by kernel_rfl) (by kernel_rfl)
theorem c (k : Nat) : Contract Tryz.prog 64 (fs k) :=
  fnS [tL, (.int .i64)] [tL, (.int .i64)] ptL fns fgs0 fws0 (fun k (x : LX × Int) => nat_Shift.f k x.1 x.2) ok ⟨⟨rfl, fun _ => rfl, fun k x => by kernel_rfl⟩, ⟨rfl, fun _ => rfl, fun k x => by kernel_rfl⟩, ⟨rfl, fun _ => rfl, fun k x => by kernel_rfl⟩, trivial⟩ (fun k x => by kernel_rfl) (fun k => ⟨⟨nat_trim.c k, nat_moved.c k, nat_own.c k, trivial⟩, trivial, trivial⟩) k
end nat_Shift

namespace nat_Bits
def ptL : List (Pt (TD [(.int .i64)])) := []
def fns : Nat → List (FuncId × FS) := fun k => [(97, nat_trim.fs k), (104, bits_Len32.fs k)]
def fs (k : Nat) : FS := ⟨[tL], [(.int .i64)], fun (x : LX) => nat_Bits.f k x⟩
theorem ok : FnO Tryz.prog 66 20 Tryz.f66 1 := okF _ (by kernel_rfl) (by kernel_rfl)
theorem c (k : Nat) : Contract Tryz.prog 66 (fs k) :=
  fnS [tL] [(.int .i64)] ptL fns fgs0 fws0 (fun k (x : LX) => nat_Bits.f k x) ok trivial (fun k x => by kernel_rfl) (fun k => ⟨⟨nat_trim.c k, bits_Len32.c k, trivial⟩, trivial, trivial⟩) k
end nat_Bits

namespace ratio_Norm
def ptL : List (Pt (TD [tQ])) := []
def fns : Nat → List (FuncId × FS) := fun k => [(66, nat_Bits.fs k), (59, ratio_made.fs k)]
def fs (k : Nat) : FS := ⟨[tQ], [tQ], fun (x : RX) => ratio_Norm.f k x⟩
theorem ok : FnO Tryz.prog 61 14 Tryz.f61 1 := okF _ (by kernel_rfl) (by kernel_rfl)
theorem c (k : Nat) : Contract Tryz.prog 61 (fs k) :=
  fnS [tQ] [tQ] ptL fns fgs0 fws0 (fun k (x : RX) => ratio_Norm.f k x) ok trivial (fun k x => by kernel_rfl) (fun k => ⟨⟨nat_Bits.c k, ratio_made.c k, trivial⟩, trivial, trivial⟩) k
end ratio_Norm

namespace ratio_Inv
def ptL : List (Pt (TD [tQ, (.int .i64)])) := []
def fns : Nat → List (FuncId × FS) := fun k => [(61, ratio_Norm.fs k), (27, ratio_Of.fs k)]
def fs (k : Nat) : FS := ⟨[tQ], [tQ, (.int .i64)], fun (x : RX) => ratio_Inv.f k x⟩
theorem ok : FnO Tryz.prog 65 14 Tryz.f65 1 := okF _ (by kernel_rfl) (by kernel_rfl)
theorem c (k : Nat) : Contract Tryz.prog 65 (fs k) :=
  fnS [tQ] [tQ, (.int .i64)] ptL fns fgs0 fws0 (fun k (x : RX) => ratio_Inv.f k x) ok trivial (fun k x => by kernel_rfl) (fun k => ⟨⟨ratio_Norm.c k, ratio_Of.c k, trivial⟩, trivial, trivial⟩) k
end ratio_Inv

namespace approx_two
def s11 : PSig := ⟨0, [(36, tQ, true), (36, tQ, true)], [(2, .ptr 0 []), (5, .ptr 1 [])]⟩
def ptL : List (Pt (TD [tQ])) := [⟨11, s11, fun k (x : RX × RX) => approx_two.p11 k x.1 x.2⟩]
def fns : Nat → List (FuncId × FS) := fun k => [(26, nat_Of.fs k), (64, nat_Shift.fs k), (28, whole_Of.fs k), (27, ratio_Of.fs k), (65, ratio_Inv.fs k)]
def fs (k : Nat) : FS := ⟨[(.int .i64)], [tQ], fun (x : Int) => approx_two.f k x⟩
theorem ok : FnO Tryz.prog 30 31 Tryz.f30 1 := okF _ (by kernel_rfl) (by kernel_rfl)
theorem c (k : Nat) : Contract Tryz.prog 30 (fs k) :=
  fnS [(.int .i64)] [tQ] ptL fns fgs0 fws0 (fun k (x : Int) => approx_two.f k x) ok ⟨⟨rfl, fun _ => rfl, fun k x => by kernel_rfl⟩, trivial⟩ (fun k x => by kernel_rfl) (fun k => ⟨⟨nat_Of.c k, nat_Shift.c k, whole_Of.c k, ratio_Of.c k, ratio_Inv.c k, trivial⟩, trivial, trivial⟩) k
end approx_two

namespace nat_Mul
def s0 : PSig := ⟨0, [(84, (.int .u32), false)], [(0, .val tL), (1, .val tL), (5, .own 0), (21, .val (.int .i64)), (22, .val (.int .i64))]⟩
def s4 : PSig := ⟨0, [(84, (.int .u32), false)], [(0, .val tL), (1, .val tL), (5, .own 0), (6, .val (.int .i64)), (7, .val (.int .u64)), (21, .val (.int .i64)), (22, .val (.int .i64)), (26, .val (.int .i64)), (27, .val (.int .i64))]⟩
def ptL : List (Pt (TD [tL])) := [⟨0, s0, fun k (x : LX × LX × LX × Int × Int) => nat_Mul.p0 k x.1 x.2.1 x.2.2.1 x.2.2.2.1 x.2.2.2.2⟩, ⟨4, s4, fun k (x : LX × LX × LX × Int × Int × Int × Int × Int × Int) => nat_Mul.p4 k x.1 x.2.1 x.2.2.1 x.2.2.2.1 x.2.2.2.2.1 x.2.2.2.2.2.1 x.2.2.2.2.2.2.1 x.2.2.2.2.2.2.2.1 x.2.2.2.2.2.2.2.2⟩]
def fns : Nat → List (FuncId × FS) := fun k => [(97, nat_trim.fs k), (56, nat_own.fs k)]
def fs (k : Nat) : FS := ⟨[tL, tL], [tL], fun (x : LX × LX) => nat_Mul.f k x.1 x.2⟩
theorem ok : FnO Tryz.prog 63 72 Tryz.f63 2 := okF _ (by kernel_rfl) (by kernel_rfl)
theorem c (k : Nat) : Contract Tryz.prog 63 (fs k) :=
  fnS [tL, tL] [tL] ptL fns fgs0 fws0 (fun k (x : LX × LX) => nat_Mul.f k x.1 x.2) ok ⟨⟨rfl, fun _ => rfl, fun k x => by kernel_rfl⟩, ⟨rfl, fun _ => rfl, fun k x => by kernel_rfl⟩, trivial⟩ (fun k x => by kernel_rfl) (fun k => ⟨⟨nat_trim.c k, nat_own.c k, trivial⟩, trivial, trivial⟩) k
end nat_Mul

namespace whole_Mul
def ptL : List (Pt (TD [tZ])) := []
def fns : Nat → List (FuncId × FS) := fun k => [(63, nat_Mul.fs k), (57, whole_Sign.fs k), (60, whole_signed.fs k)]
def fs (k : Nat) : FS := ⟨[tZ, tZ], [tZ], fun (x : ZX × ZX) => whole_Mul.f k x.1 x.2⟩
theorem ok : FnO Tryz.prog 62 16 Tryz.f62 2 := okF _ (by kernel_rfl) (by kernel_rfl)
theorem c (k : Nat) : Contract Tryz.prog 62 (fs k) :=
  fnS [tZ, tZ] [tZ] ptL fns fgs0 fws0 (fun k (x : ZX × ZX) => whole_Mul.f k x.1 x.2) ok trivial (fun k x => by kernel_rfl) (fun k => ⟨⟨nat_Mul.c k, whole_Sign.c k, whole_signed.c k, trivial⟩, trivial, trivial⟩) k
end whole_Mul

namespace ratio_Mul
def ptL : List (Pt (TD [tQ])) := []
def fns : Nat → List (FuncId × FS) := fun k => [(61, ratio_Norm.fs k), (62, whole_Mul.fs k), (63, nat_Mul.fs k), (59, ratio_made.fs k)]
def fs (k : Nat) : FS := ⟨[tQ, tQ], [tQ], fun (x : RX × RX) => ratio_Mul.f k x.1 x.2⟩
theorem ok : FnO Tryz.prog 29 20 Tryz.f29 2 := okF _ (by kernel_rfl) (by kernel_rfl)
theorem c (k : Nat) : Contract Tryz.prog 29 (fs k) :=
  fnS [tQ, tQ] [tQ] ptL fns fgs0 fws0 (fun k (x : RX × RX) => ratio_Mul.f k x.1 x.2) ok trivial (fun k x => by kernel_rfl) (fun k => ⟨⟨ratio_Norm.c k, whole_Mul.c k, nat_Mul.c k, ratio_made.c k, trivial⟩, trivial, trivial⟩) k
end ratio_Mul

namespace approx_Exact
def s21 : PSig := ⟨0, [(36, tQ, true)], [(0, .val .flt), (2, .ptr 0 []), (5, .val (.int .u64)), (6, .val (.int .i64))]⟩
def ptL : List (Pt (TD [tQ, (.int .i64)])) := [⟨21, s21, fun k (x : RX × Nat × Int × Int) => approx_Exact.p21 k x.1 x.2.1 x.2.2.1 x.2.2.2⟩]
def fns : Nat → List (FuncId × FS) := fun k => [(24, math_IsNaN.fs k), (25, math_IsInf.fs k), (18, ⟨[.flt], [(.int .u64)], fun (x : Nat) => math_Float64bits.f k x⟩), (26, nat_Of.fs k), (28, whole_Of.fs k), (27, ratio_Of.fs k), (30, approx_two.fs k), (29, ratio_Mul.fs k)]
def fs (k : Nat) : FS := ⟨[.flt], [tQ, (.int .i64)], fun (x : Nat) => approx_Exact.f k x⟩
theorem ok : FnO Tryz.prog 10 48 Tryz.f10 1 := okF _ (by kernel_rfl) (by kernel_rfl)
theorem c (k : Nat) : Contract Tryz.prog 10 (fs k) :=
  fnS [.flt] [tQ, (.int .i64)] ptL fns fgs0 fws0 (fun k (x : Nat) => approx_Exact.f k x) ok ⟨⟨rfl, fun _ => rfl, fun k x => by kernel_rfl⟩, trivial⟩ (fun k x => by kernel_rfl) (fun k => ⟨⟨math_IsNaN.c k, math_IsInf.c k, math_Float64bits.c k, nat_Of.c k, whole_Of.c k, ratio_Of.c k, approx_two.c k, ratio_Mul.c k, trivial⟩, trivial, trivial⟩) k
end approx_Exact

namespace math_Signbit
def ptL : List (Pt (TD [.bool])) := []
def fns : Nat → List (FuncId × FS) := fun k => [(18, ⟨[.flt], [(.int .u64)], fun (x : Nat) => math_Float64bits.f k x⟩)]
def fs (k : Nat) : FS := ⟨[.flt], [.bool], fun (x : Nat) => math_Signbit.f k x⟩
theorem ok : FnO Tryz.prog 21 7 Tryz.f21 1 := okF _ (by kernel_rfl) (by kernel_rfl)
theorem c (k : Nat) : Contract Tryz.prog 21 (fs k) :=
  fnS [.flt] [.bool] ptL fns fgs0 fws0 (fun k (x : Nat) => math_Signbit.f k x) ok trivial (fun k x => by kernel_rfl) (fun k => ⟨⟨math_Float64bits.c k, trivial⟩, trivial, trivial⟩) k
end math_Signbit

namespace nat_Pow
def s5 : PSig := ⟨0, [], []⟩
def s0 : PSig := ⟨0, [], [(1, .val (.int .i64)), (6, .val tL), (7, .val tL)]⟩
def s19 : PSig := ⟨0, [], [(1, .val (.int .i64)), (6, .val tL), (7, .val tL)]⟩
def s13 : PSig := ⟨0, [], [(1, .val (.int .i64)), (6, .val tL), (7, .val tL)]⟩
def ptL : List (Pt (TD [tL, (.int .i64)])) := [⟨5, s5, fun k (x : Unit) => nat_Pow.p5 k x⟩, ⟨0, s0, fun k (x : Int × LX × LX) => nat_Pow.p0 k x.1 x.2.1 x.2.2⟩, ⟨19, s19, fun k (x : Int × LX × LX) => nat_Pow.p19 k x.1 x.2.1 x.2.2⟩, ⟨13, s13, fun k (x : Int × LX × LX) => nat_Pow.p13 k x.1 x.2.1 x.2.2⟩]
def fns : Nat → List (FuncId × FS) := fun k => [(56, nat_own.fs k), (63, nat_Mul.fs k)]
def fs (k : Nat) : FS := ⟨[tL, (.int .i64)], [tL, (.int .i64)], fun (x : LX × Int) => nat_Pow.f k x.1 x.2⟩
theorem ok : FnO Tryz.prog 89 33 Tryz.f89 2 := okF _ (by kernel_rfl) (by kernel_rfl)
theorem c (k : Nat) : Contract Tryz.prog 89 (fs k) :=
  fnS [tL, (.int .i64)] [tL, (.int .i64)] ptL fns fgs0 fws0 (fun k (x : LX × Int) => nat_Pow.f k x.1 x.2) ok ⟨⟨rfl, fun _ => rfl, fun k x => by kernel_rfl⟩, ⟨rfl, fun _ => rfl, fun k x => by kernel_rfl⟩, ⟨rfl, fun _ => rfl, fun k x => by kernel_rfl⟩, ⟨rfl, fun _ => rfl, fun k x => by kernel_rfl⟩, trivial⟩ (fun k x => by kernel_rfl) (fun k => ⟨⟨nat_own.c k, nat_Mul.c k, trivial⟩, trivial, trivial⟩) k
end nat_Pow

namespace approx_ten
def s0 : PSig := ⟨0, [(36, tQ, true)], [(0, .val (.int .i64)), (2, .ptr 0 []), (3, .val tL), (4, .val (.int .i64))]⟩
def s21 : PSig := ⟨0, [(36, tQ, true), (36, tQ, true)], [(2, .ptr 0 []), (7, .ptr 1 [])]⟩
def ptL : List (Pt (TD [tQ])) := [⟨0, s0, fun k (x : RX × Int × LX × Int) => approx_ten.p0 k x.1 x.2.1 x.2.2.1 x.2.2.2⟩, ⟨21, s21, fun k (x : RX × RX) => approx_ten.p21 k x.1 x.2⟩]
def fns : Nat → List (FuncId × FS) := fun k => [(26, nat_Of.fs k), (89, nat_Pow.fs k), (63, nat_Mul.fs k), (28, whole_Of.fs k), (27, ratio_Of.fs k), (65, ratio_Inv.fs k)]
def fs (k : Nat) : FS := ⟨[(.int .i64)], [tQ], fun (x : Int) => approx_ten.f k x⟩
theorem ok : FnO Tryz.prog 46 43 Tryz.f46 1 := okF _ (by kernel_rfl) (by kernel_rfl)
theorem c (k : Nat) : Contract Tryz.prog 46 (fs k) :=
  fnS [(.int .i64)] [tQ] ptL fns fgs0 fws0 (fun k (x : Int) => approx_ten.f k x) ok ⟨⟨rfl, fun _ => rfl, fun k x => by kernel_rfl⟩, ⟨rfl, fun _ => rfl, fun k x => by kernel_rfl⟩, trivial⟩ (fun k x => by kernel_rfl) (fun k => ⟨⟨nat_Of.c k, nat_Pow.c k, nat_Mul.c k, whole_Of.c k, ratio_Of.c k, ratio_Inv.c k, trivial⟩, trivial, trivial⟩) k
end approx_ten

namespace nat_Add
def s7 : PSig := ⟨0, [], [(0, .val tL), (1, .val tL)]⟩
def s0 : PSig := ⟨0, [(84, (.int .u32), false)], [(0, .val tL), (1, .val tL), (5, .own 0), (6, .val (.int .u32)), (21, .val (.int .i64)), (22, .val (.int .i64))]⟩
def s23 : PSig := ⟨0, [(84, (.int .u32), false)], [(0, .val tL), (1, .val tL), (5, .own 0), (6, .val (.int .u32)), (7, .val (.int .i64)), (8, .val (.int .u32)), (21, .val (.int .i64)), (22, .val (.int .i64))]⟩
def ptL : List (Pt (TD [tL])) := [⟨7, s7, fun k (x : LX × LX) => nat_Add.p7 k x.1 x.2⟩, ⟨0, s0, fun k (x : LX × LX × LX × Int × Int × Int) => nat_Add.p0 k x.1 x.2.1 x.2.2.1 x.2.2.2.1 x.2.2.2.2.1 x.2.2.2.2.2⟩, ⟨23, s23, fun k (x : LX × LX × LX × Int × Int × Int × Int × Int) => nat_Add.p23 k x.1 x.2.1 x.2.2.1 x.2.2.2.1 x.2.2.2.2.1 x.2.2.2.2.2.1 x.2.2.2.2.2.2.1 x.2.2.2.2.2.2.2⟩]
def fns : Nat → List (FuncId × FS) := fun k => [(105, bits_Add32.fs k), (56, nat_own.fs k)]
def fs (k : Nat) : FS := ⟨[tL, tL], [tL], fun (x : LX × LX) => nat_Add.f k x.1 x.2⟩
theorem ok : FnO Tryz.prog 70 54 Tryz.f70 2 := okF _ (by kernel_rfl) (by kernel_rfl)
theorem c (k : Nat) : Contract Tryz.prog 70 (fs k) :=
  fnS [tL, tL] [tL] ptL fns fgs0 fws0 (fun k (x : LX × LX) => nat_Add.f k x.1 x.2) ok ⟨⟨rfl, fun _ => rfl, fun k x => by kernel_rfl⟩, ⟨rfl, fun _ => rfl, fun k x => by kernel_rfl⟩, ⟨rfl, fun _ => rfl, fun k x => by kernel_rfl⟩, trivial⟩ (fun k x => by kernel_rfl) (fun k => ⟨⟨bits_Add32.c k, nat_own.c k, trivial⟩, trivial, trivial⟩) k
end nat_Add

namespace nat_Sub
def s0 : PSig := ⟨0, [(84, (.int .u32), false)], [(0, .val tL), (1, .val tL), (6, .own 0), (7, .val (.int .u32)), (20, .val (.int .i64)), (21, .val (.int .i64))]⟩
def s25 : PSig := ⟨0, [(84, (.int .u32), false)], [(0, .val tL), (1, .val tL), (6, .own 0), (7, .val (.int .u32)), (8, .val (.int .i64)), (9, .val (.int .u32)), (20, .val (.int .i64)), (21, .val (.int .i64))]⟩
def ptL : List (Pt (TD [tL, (.int .i64)])) := [⟨0, s0, fun k (x : LX × LX × LX × Int × Int × Int) => nat_Sub.p0 k x.1 x.2.1 x.2.2.1 x.2.2.2.1 x.2.2.2.2.1 x.2.2.2.2.2⟩, ⟨25, s25, fun k (x : LX × LX × LX × Int × Int × Int × Int × Int) => nat_Sub.p25 k x.1 x.2.1 x.2.2.1 x.2.2.2.1 x.2.2.2.2.1 x.2.2.2.2.2.1 x.2.2.2.2.2.2.1 x.2.2.2.2.2.2.2⟩]
def fns : Nat → List (FuncId × FS) := fun k => [(69, nat_Cmp.fs k), (97, nat_trim.fs k), (125, bits_Sub32.fs k), (56, nat_own.fs k)]
def fs (k : Nat) : FS := ⟨[tL, tL], [tL, (.int .i64)], fun (x : LX × LX) => nat_Sub.f k x.1 x.2⟩
theorem ok : FnO Tryz.prog 92 48 Tryz.f92 2 := okF _ (by kernel_rfl) (by kernel_rfl)
theorem c (k : Nat) : Contract Tryz.prog 92 (fs k) :=
  fnS [tL, tL] [tL, (.int .i64)] ptL fns fgs0 fws0 (fun k (x : LX × LX) => nat_Sub.f k x.1 x.2) ok ⟨⟨rfl, fun _ => rfl, fun k x => by kernel_rfl⟩, ⟨rfl, fun _ => rfl, fun k x => by kernel_rfl⟩, trivial⟩ (fun k x => by kernel_rfl) (fun k => ⟨⟨nat_Cmp.c k, nat_trim.c k, bits_Sub32.c k, nat_own.c k, trivial⟩, trivial, trivial⟩) k
end nat_Sub

namespace whole_Add
def ptL : List (Pt (TD [tZ])) := []
def fns : Nat → List (FuncId × FS) := fun k => [(57, whole_Sign.fs k), (70, nat_Add.fs k), (60, whole_signed.fs k), (69, nat_Cmp.fs k), (92, nat_Sub.fs k)]
def fs (k : Nat) : FS := ⟨[tZ, tZ], [tZ], fun (x : ZX × ZX) => whole_Add.f k x.1 x.2⟩
theorem ok : FnO Tryz.prog 50 60 Tryz.f50 2 := okF _ (by kernel_rfl) (by kernel_rfl)
theorem c (k : Nat) : Contract Tryz.prog 50 (fs k) :=
  fnS [tZ, tZ] [tZ] ptL fns fgs0 fws0 (fun k (x : ZX × ZX) => whole_Add.f k x.1 x.2) ok trivial (fun k x => by kernel_rfl) (fun k => ⟨⟨whole_Sign.c k, nat_Add.c k, whole_signed.c k, nat_Cmp.c k, nat_Sub.c k, trivial⟩, trivial, trivial⟩) k
end whole_Add

namespace whole_Sub
def ptL : List (Pt (TD [tZ])) := []
def fns : Nat → List (FuncId × FS) := fun k => [(58, whole_Neg.fs k), (50, whole_Add.fs k)]
def fs (k : Nat) : FS := ⟨[tZ, tZ], [tZ], fun (x : ZX × ZX) => whole_Sub.f k x.1 x.2⟩
theorem ok : FnO Tryz.prog 122 9 Tryz.f122 2 := okF _ (by kernel_rfl) (by kernel_rfl)
theorem c (k : Nat) : Contract Tryz.prog 122 (fs k) :=
  fnS [tZ, tZ] [tZ] ptL fns fgs0 fws0 (fun k (x : ZX × ZX) => whole_Sub.f k x.1 x.2) ok trivial (fun k x => by kernel_rfl) (fun k => ⟨⟨whole_Neg.c k, whole_Add.c k, trivial⟩, trivial, trivial⟩) k
end whole_Sub

namespace whole_Cmp
def ptL : List (Pt (TD [(.int .i64)])) := []
def fns : Nat → List (FuncId × FS) := fun k => [(122, whole_Sub.fs k), (57, whole_Sign.fs k)]
def fs (k : Nat) : FS := ⟨[tZ, tZ], [(.int .i64)], fun (x : ZX × ZX) => whole_Cmp.f k x.1 x.2⟩
theorem ok : FnO Tryz.prog 90 9 Tryz.f90 2 := okF _ (by kernel_rfl) (by kernel_rfl)
theorem c (k : Nat) : Contract Tryz.prog 90 (fs k) :=
  fnS [tZ, tZ] [(.int .i64)] ptL fns fgs0 fws0 (fun k (x : ZX × ZX) => whole_Cmp.f k x.1 x.2) ok trivial (fun k x => by kernel_rfl) (fun k => ⟨⟨whole_Sub.c k, whole_Sign.c k, trivial⟩, trivial, trivial⟩) k
end whole_Cmp

namespace ratio_Cmp
def ptL : List (Pt (TD [(.int .i64)])) := []
def fns : Nat → List (FuncId × FS) := fun k => [(61, ratio_Norm.fs k), (62, whole_Mul.fs k), (90, whole_Cmp.fs k)]
def fs (k : Nat) : FS := ⟨[tQ, tQ], [(.int .i64)], fun (x : RX × RX) => ratio_Cmp.f k x.1 x.2⟩
theorem ok : FnO Tryz.prog 47 22 Tryz.f47 2 := okF _ (by kernel_rfl) (by kernel_rfl)
theorem c (k : Nat) : Contract Tryz.prog 47 (fs k) :=
  fnS [tQ, tQ] [(.int .i64)] ptL fns fgs0 fws0 (fun k (x : RX × RX) => ratio_Cmp.f k x.1 x.2) ok trivial (fun k x => by kernel_rfl) (fun k => ⟨⟨ratio_Norm.c k, whole_Mul.c k, whole_Cmp.c k, trivial⟩, trivial, trivial⟩) k
end ratio_Cmp

namespace approx_power
def s0 : PSig := ⟨0, [(36, tQ, true)], [(1, .ptr 0 []), (3, .val (.int .i64))]⟩
def ptL : List (Pt (TD [(.int .i64)])) := [⟨0, s0, fun k (x : RX × Int) => approx_power.p0 k x.1 x.2⟩]
def fns : Nat → List (FuncId × FS) := fun k => [(46, approx_ten.fs k), (47, ratio_Cmp.fs k)]
def fs (k : Nat) : FS := ⟨[tQ], [(.int .i64)], fun (x : RX) => approx_power.f k x⟩
theorem ok : FnO Tryz.prog 22 13 Tryz.f22 1 := okF _ (by kernel_rfl) (by kernel_rfl)
theorem c (k : Nat) : Contract Tryz.prog 22 (fs k) :=
  fnS [tQ] [(.int .i64)] ptL fns fgs0 fws0 (fun k (x : RX) => approx_power.f k x) ok ⟨⟨rfl, fun _ => rfl, fun k x => by kernel_rfl⟩, trivial⟩ (fun k x => by kernel_rfl) (fun k => ⟨⟨approx_ten.c k, ratio_Cmp.c k, trivial⟩, trivial, trivial⟩) k
end approx_power

namespace ratio_Div
def ptL : List (Pt (TD [tQ, (.int .i64)])) := []
def fns : Nat → List (FuncId × FS) := fun k => [(65, ratio_Inv.fs k), (29, ratio_Mul.fs k)]
def fs (k : Nat) : FS := ⟨[tQ, tQ], [tQ, (.int .i64)], fun (x : RX × RX) => ratio_Div.f k x.1 x.2⟩
theorem ok : FnO Tryz.prog 48 20 Tryz.f48 2 := okF _ (by kernel_rfl) (by kernel_rfl)
theorem c (k : Nat) : Contract Tryz.prog 48 (fs k) :=
  fnS [tQ, tQ] [tQ, (.int .i64)] ptL fns fgs0 fws0 (fun k (x : RX × RX) => ratio_Div.f k x.1 x.2) ok trivial (fun k x => by kernel_rfl) (fun k => ⟨⟨ratio_Inv.c k, ratio_Mul.c k, trivial⟩, trivial, trivial⟩) k
end ratio_Div

namespace whole_Quo
def ptL : List (Pt (TD [tZ, tZ, (.int .i64)])) := []
def fns : Nat → List (FuncId × FS) := fun k => [(100, nat_Div.fs k), (57, whole_Sign.fs k), (60, whole_signed.fs k)]
def fs (k : Nat) : FS := ⟨[tZ, tZ], [tZ, tZ, (.int .i64)], fun (x : ZX × ZX) => whole_Quo.f k x.1 x.2⟩
theorem ok : FnO Tryz.prog 123 36 Tryz.f123 2 := okF _ (by kernel_rfl) (by kernel_rfl)
theorem c (k : Nat) : Contract Tryz.prog 123 (fs k) :=
  fnS [tZ, tZ] [tZ, tZ, (.int .i64)] ptL fns fgs0 fws0 (fun k (x : ZX × ZX) => whole_Quo.f k x.1 x.2) ok trivial (fun k x => by kernel_rfl) (fun k => ⟨⟨nat_Div.c k, whole_Sign.c k, whole_signed.c k, trivial⟩, trivial, trivial⟩) k
end whole_Quo

namespace whole_moved
def ptL : List (Pt (TD [tZ, tZ, (.int .i64)])) := []
def fns : Nat → List (FuncId × FS) := fun k => [(57, whole_Sign.fs k), (28, whole_Of.fs k), (50, whole_Add.fs k), (122, whole_Sub.fs k)]
def fs (k : Nat) : FS := ⟨[tZ, tZ, tZ, .bool], [tZ, tZ, (.int .i64)], fun (x : ZX × ZX × ZX × Bool) => whole_moved.f k x.1 x.2.1 x.2.2.1 x.2.2.2⟩
theorem ok : FnO Tryz.prog 124 32 Tryz.f124 4 := okF _ (by kernel_rfl) (by kernel_rfl)
theorem c (k : Nat) : Contract Tryz.prog 124 (fs k) :=
  fnS [tZ, tZ, tZ, .bool] [tZ, tZ, (.int .i64)] ptL fns fgs0 fws0 (fun k (x : ZX × ZX × ZX × Bool) => whole_moved.f k x.1 x.2.1 x.2.2.1 x.2.2.2) ok trivial (fun k x => by kernel_rfl) (fun k => ⟨⟨whole_Sign.c k, whole_Of.c k, whole_Add.c k, whole_Sub.c k, trivial⟩, trivial, trivial⟩) k
end whole_moved

namespace whole_Floor
def ptL : List (Pt (TD [tZ, tZ, (.int .i64)])) := []
def fns : Nat → List (FuncId × FS) := fun k => [(123, whole_Quo.fs k), (57, whole_Sign.fs k), (124, whole_moved.fs k)]
def fs (k : Nat) : FS := ⟨[tZ, tZ], [tZ, tZ, (.int .i64)], fun (x : ZX × ZX) => whole_Floor.f k x.1 x.2⟩
theorem ok : FnO Tryz.prog 91 35 Tryz.f91 2 := okF _ (by kernel_rfl) (by kernel_rfl)
theorem c (k : Nat) : Contract Tryz.prog 91 (fs k) :=
  fnS [tZ, tZ] [tZ, tZ, (.int .i64)] ptL fns fgs0 fws0 (fun k (x : ZX × ZX) => whole_Floor.f k x.1 x.2) ok trivial (fun k x => by kernel_rfl) (fun k => ⟨⟨whole_Quo.c k, whole_Sign.c k, whole_moved.c k, trivial⟩, trivial, trivial⟩) k
end whole_Floor

namespace ratio_Floor
def ptL : List (Pt (TD [tZ])) := []
def fns : Nat → List (FuncId × FS) := fun k => [(61, ratio_Norm.fs k), (91, whole_Floor.fs k)]
def fs (k : Nat) : FS := ⟨[tQ], [tZ], fun (x : RX) => ratio_Floor.f k x⟩
theorem ok : FnO Tryz.prog 49 19 Tryz.f49 1 := okF _ (by kernel_rfl) (by kernel_rfl)
theorem c (k : Nat) : Contract Tryz.prog 49 (fs k) :=
  fnS [tQ] [tZ] ptL fns fgs0 fws0 (fun k (x : RX) => ratio_Floor.f k x) ok trivial (fun k x => by kernel_rfl) (fun k => ⟨⟨ratio_Norm.c k, whole_Floor.c k, trivial⟩, trivial, trivial⟩) k
end ratio_Floor

namespace nat_Text
def s5 : PSig := ⟨0, [], []⟩
def s0 : PSig := ⟨0, [(5, (.int .u8), false)], [(1, .val (.int .i64)), (6, .own 0), (7, .val tL)]⟩
def s4 : PSig := ⟨0, [(5, (.int .u8), false), (5, (.int .u8), false)], [(6, .own 0), (9, .own 1), (43, .val (.int .i64)), (44, .val (.int .i64))]⟩
def ptL : List (Pt (TD [.str, (.int .i64)])) := [⟨5, s5, fun k (x : Unit) => nat_Text.p5 k x⟩, ⟨0, s0, fun k (x : LX × Int × LX) => nat_Text.p0 k x.1 x.2.1 x.2.2⟩, ⟨4, s4, fun k (x : LX × LX × Int × Int) => nat_Text.p4 k x.1 x.2.1 x.2.2.1 x.2.2.2⟩]
def fns : Nat → List (FuncId × FS) := fun k => [(56, nat_own.fs k), (126, nat_short.fs k), (97, nat_trim.fs k)]
def fs (k : Nat) : FS := ⟨[tL, (.int .i64)], [.str, (.int .i64)], fun (x : LX × Int) => nat_Text.f k x.1 x.2⟩
theorem ok : FnO Tryz.prog 93 61 Tryz.f93 2 := okF _ (by kernel_rfl) (by kernel_rfl)
theorem c (k : Nat) : Contract Tryz.prog 93 (fs k) :=
  fnS [tL, (.int .i64)] [.str, (.int .i64)] ptL fns fgs0 fws0 (fun k (x : LX × Int) => nat_Text.f k x.1 x.2) ok ⟨⟨rfl, fun _ => rfl, fun k x => by kernel_rfl⟩, ⟨rfl, fun _ => rfl, fun k x => by kernel_rfl⟩, ⟨rfl, fun _ => rfl, fun k x => by kernel_rfl⟩, trivial⟩ (fun k x => by kernel_rfl) (fun k => ⟨⟨nat_own.c k, nat_short.c k, nat_trim.c k, trivial⟩, trivial, trivial⟩) k
end nat_Text

namespace whole_Text
def ptL : List (Pt (TD [.str])) := []
def fns : Nat → List (FuncId × FS) := fun k => [(93, nat_Text.fs k), (57, whole_Sign.fs k)]
def fs (k : Nat) : FS := ⟨[tZ], [.str], fun (x : ZX) => whole_Text.f k x⟩
theorem ok : FnO Tryz.prog 51 17 Tryz.f51 1 := okF _ (by kernel_rfl) (by kernel_rfl)
theorem c (k : Nat) : Contract Tryz.prog 51 (fs k) :=
  fnS [tZ] [.str] ptL fns fgs0 fws0 (fun k (x : ZX) => whole_Text.f k x) ok trivial (fun k x => by kernel_rfl) (fun k => ⟨⟨nat_Text.c k, whole_Sign.c k, trivial⟩, trivial, trivial⟩) k
end whole_Text

namespace strings_trimRightByte
def s0 : PSig := ⟨0, [], [(0, .val .str), (1, .val (.int .u8))]⟩
def s7 : PSig := ⟨0, [], [(0, .val .str)]⟩
def ptL : List (Pt (TD [.str])) := [⟨0, s0, fun k (x : ByteArray × Int) => strings_trimRightByte.p0 k x.1 x.2⟩, ⟨7, s7, fun k (x : ByteArray) => strings_trimRightByte.p7 k x⟩]
def fs (k : Nat) : FS := ⟨[.str, (.int .u8)], [.str], fun (x : ByteArray × Int) => strings_trimRightByte.f k x.1 x.2⟩
theorem ok : FnO Tryz.prog 127 23 Tryz.f127 2 := okF _ (by kernel_rfl) (by kernel_rfl)
theorem c (k : Nat) : Contract Tryz.prog 127 (fs k) :=
  fnS [.str, (.int .u8)] [.str] ptL fns0 fgs0 fws0 (fun k (x : ByteArray × Int) => strings_trimRightByte.f k x.1 x.2) ok ⟨⟨rfl, fun _ => rfl, fun k x => by kernel_rfl⟩, ⟨rfl, fun _ => rfl, fun k x => by kernel_rfl⟩, trivial⟩ (fun k x => by kernel_rfl) (fun _ => ⟨trivial, trivial, trivial⟩) k
end strings_trimRightByte

namespace utf8_RuneStart
def ptL : List (Pt (TD [.bool])) := []
def fs (k : Nat) : FS := ⟨[(.int .u8)], [.bool], fun (x : Int) => utf8_RuneStart.f k x⟩
theorem ok : FnO Tryz.prog 153 6 Tryz.f153 1 := okF _ (by kernel_rfl) (by kernel_rfl)
theorem c (k : Nat) : Contract Tryz.prog 153 (fs k) :=
  fnS [(.int .u8)] [.bool] ptL fns0 fgs0 fws0 (fun k (x : Int) => utf8_RuneStart.f k x) ok trivial (fun k x => by kernel_rfl) (fun _ => ⟨trivial, trivial, trivial⟩) k
end utf8_RuneStart

namespace utf8_decodeRuneInStringSlow
def ptL : List (Pt (TD [(.int .i32), (.int .i64)])) := []
def fs (k : Nat) : FS := ⟨[.str], [(.int .i32), (.int .i64)], fun (x : ByteArray) => utf8_decodeRuneInStringSlow.f k x⟩
theorem ok : FnO Tryz.prog 148 117 Tryz.f148 1 := okF _ (by kernel_rfl) (by kernel_rfl)
theorem c (k : Nat) : Contract Tryz.prog 148 (fs k) :=
  fnS [.str] [(.int .i32), (.int .i64)] ptL fns0 fgs0 fws0 (fun k (x : ByteArray) => utf8_decodeRuneInStringSlow.f k x) ok trivial (fun k x => by kernel_rfl) (fun _ => ⟨trivial, trivial, trivial⟩) k
end utf8_decodeRuneInStringSlow

namespace utf8_DecodeRuneInString
def s7 : PSig := ⟨0, [], [(0, .val .str)]⟩
def ptL : List (Pt (TD [(.int .i32), (.int .i64)])) := [⟨7, s7, fun k (x : ByteArray) => utf8_DecodeRuneInString.p7 k x⟩]
def fns : Nat → List (FuncId × FS) := fun k => [(148, utf8_decodeRuneInStringSlow.fs k)]
def fs (k : Nat) : FS := ⟨[.str], [(.int .i32), (.int .i64)], fun (x : ByteArray) => utf8_DecodeRuneInString.f k x⟩
theorem ok : FnO Tryz.prog 136 19 Tryz.f136 1 := okF _ (by kernel_rfl) (by kernel_rfl)
theorem c (k : Nat) : Contract Tryz.prog 136 (fs k) :=
  fnS [.str] [(.int .i32), (.int .i64)] ptL fns fgs0 fws0 (fun k (x : ByteArray) => utf8_DecodeRuneInString.f k x) ok ⟨⟨rfl, fun _ => rfl, fun k x => by kernel_rfl⟩, trivial⟩ (fun k x => by kernel_rfl) (fun k => ⟨⟨utf8_decodeRuneInStringSlow.c k, trivial⟩, trivial, trivial⟩) k
end utf8_DecodeRuneInString

namespace utf8_DecodeLastRuneInString
def s0 : PSig := ⟨0, [], [(0, .val .str), (4, .val (.int .i64)), (5, .val (.int .i64)), (6, .val (.int .i64))]⟩
def s27 : PSig := ⟨0, [], [(0, .val .str), (4, .val (.int .i64)), (5, .val (.int .i64))]⟩
def s31 : PSig := ⟨0, [], [(0, .val .str), (4, .val (.int .i64)), (5, .val (.int .i64))]⟩
def ptL : List (Pt (TD [(.int .i32), (.int .i64)])) := [⟨0, s0, fun k (x : ByteArray × Int × Int × Int) => utf8_DecodeLastRuneInString.p0 k x.1 x.2.1 x.2.2.1 x.2.2.2⟩, ⟨27, s27, fun k (x : ByteArray × Int × Int) => utf8_DecodeLastRuneInString.p27 k x.1 x.2.1 x.2.2⟩, ⟨31, s31, fun k (x : ByteArray × Int × Int) => utf8_DecodeLastRuneInString.p31 k x.1 x.2.1 x.2.2⟩]
def fns : Nat → List (FuncId × FS) := fun k => [(153, utf8_RuneStart.fs k), (136, utf8_DecodeRuneInString.fs k)]
def fs (k : Nat) : FS := ⟨[.str], [(.int .i32), (.int .i64)], fun (x : ByteArray) => utf8_DecodeLastRuneInString.f k x⟩
theorem ok : FnO Tryz.prog 144 51 Tryz.f144 1 := okF _ (by kernel_rfl) (by kernel_rfl)
theorem c (k : Nat) : Contract Tryz.prog 144 (fs k) :=
  fnS [.str] [(.int .i32), (.int .i64)] ptL fns fgs0 fws0 (fun k (x : ByteArray) => utf8_DecodeLastRuneInString.f k x) ok ⟨⟨rfl, fun _ => rfl, fun k x => by kernel_rfl⟩, ⟨rfl, fun _ => rfl, fun k x => by kernel_rfl⟩, ⟨rfl, fun _ => rfl, fun k x => by kernel_rfl⟩, trivial⟩ (fun k x => by kernel_rfl) (fun k => ⟨⟨utf8_RuneStart.c k, utf8_DecodeRuneInString.c k, trivial⟩, trivial, trivial⟩) k
end utf8_DecodeLastRuneInString

namespace bytealg_IndexByteString
theorem c (k : Nat) : Contract Tryz.prog 172 ⟨[.str, (.int .u8)], [(.int .i64)], fun (x : ByteArray × Int) => bytealg_IndexByteString.f k x.1 x.2⟩ :=
  indexByteString_contract (fn := Tryz.f172) (by kernel_rfl) (by kernel_rfl) (by kernel_rfl) (by kernel_rfl) (by kernel_rfl) (fun _ _ => rfl)
end bytealg_IndexByteString

namespace stringslite_IndexByte
def ptL : List (Pt (TD [(.int .i64)])) := []
def fns : Nat → List (FuncId × FS) := fun k => [(172, ⟨[.str, (.int .u8)], [(.int .i64)], fun (x : ByteArray × Int) => bytealg_IndexByteString.f k x.1 x.2⟩)]
def fs (k : Nat) : FS := ⟨[.str, (.int .u8)], [(.int .i64)], fun (x : ByteArray × Int) => stringslite_IndexByte.f k x.1 x.2⟩
theorem ok : FnO Tryz.prog 169 8 Tryz.f169 2 := okF _ (by kernel_rfl) (by kernel_rfl)
theorem c (k : Nat) : Contract Tryz.prog 169 (fs k) :=
  fnS [.str, (.int .u8)] [(.int .i64)] ptL fns fgs0 fws0 (fun k (x : ByteArray × Int) => stringslite_IndexByte.f k x.1 x.2) ok trivial (fun k x => by kernel_rfl) (fun k => ⟨⟨bytealg_IndexByteString.c k, trivial⟩, trivial, trivial⟩) k
end stringslite_IndexByte

namespace strings_IndexByte
def ptL : List (Pt (TD [(.int .i64)])) := []
def fns : Nat → List (FuncId × FS) := fun k => [(169, stringslite_IndexByte.fs k)]
def fs (k : Nat) : FS := ⟨[.str, (.int .u8)], [(.int .i64)], fun (x : ByteArray × Int) => strings_IndexByte.f k x.1 x.2⟩
theorem ok : FnO Tryz.prog 158 8 Tryz.f158 2 := okF _ (by kernel_rfl) (by kernel_rfl)
theorem c (k : Nat) : Contract Tryz.prog 158 (fs k) :=
  fnS [.str, (.int .u8)] [(.int .i64)] ptL fns fgs0 fws0 (fun k (x : ByteArray × Int) => strings_IndexByte.f k x.1 x.2) ok trivial (fun k x => by kernel_rfl) (fun k => ⟨⟨stringslite_IndexByte.c k, trivial⟩, trivial, trivial⟩) k
end strings_IndexByte

namespace utf8_ValidRune
def s7 : PSig := ⟨0, [], [(0, .val (.int .i32))]⟩
def s11 : PSig := ⟨0, [], []⟩
def ptL : List (Pt (TD [.bool])) := [⟨7, s7, fun k (x : Int) => utf8_ValidRune.p7 k x⟩, ⟨11, s11, fun k (x : Unit) => utf8_ValidRune.p11 k x⟩]
def fs (k : Nat) : FS := ⟨[(.int .i32)], [.bool], fun (x : Int) => utf8_ValidRune.f k x⟩
theorem ok : FnO Tryz.prog 159 17 Tryz.f159 1 := okF _ (by kernel_rfl) (by kernel_rfl)
theorem c (k : Nat) : Contract Tryz.prog 159 (fs k) :=
  fnS [(.int .i32)] [.bool] ptL fns0 fgs0 fws0 (fun k (x : Int) => utf8_ValidRune.f k x) ok ⟨⟨rfl, fun _ => rfl, fun k x => by kernel_rfl⟩, ⟨rfl, fun _ => rfl, fun k x => by kernel_rfl⟩, trivial⟩ (fun k x => by kernel_rfl) (fun _ => ⟨trivial, trivial, trivial⟩) k
end utf8_ValidRune

namespace bytealg_Cutover
def ptL : List (Pt (TD [(.int .i64)])) := []
def fs (k : Nat) : FS := ⟨[(.int .i64)], [(.int .i64)], fun (x : Int) => bytealg_Cutover.f k x⟩
theorem ok : FnO Tryz.prog 160 6 Tryz.f160 1 := okF _ (by kernel_rfl) (by kernel_rfl)
theorem c (k : Nat) : Contract Tryz.prog 160 (fs k) :=
  fnS [(.int .i64)] [(.int .i64)] ptL fns0 fgs0 fws0 (fun k (x : Int) => bytealg_Cutover.f k x) ok trivial (fun k x => by kernel_rfl) (fun _ => ⟨trivial, trivial, trivial⟩) k
end bytealg_Cutover

namespace strings_IndexRune
def s73 : PSig := ⟨0, [], [(0, .val .str), (1, .val (.int .i32))]⟩
def s2 : PSig := ⟨0, [], [(0, .val .str), (7, .val .str), (8, .val (.int .i64)), (9, .val (.int .i64))]⟩
def s23 : PSig := ⟨0, [], [(0, .val .str), (7, .val .str), (8, .val (.int .i64)), (9, .val (.int .i64))]⟩
def s6 : PSig := ⟨0, [], [(0, .val .str), (7, .val .str), (8, .val (.int .i64)), (9, .val (.int .i64)), (12, .val (.int .i64))]⟩
def ptL : List (Pt (TD [(.int .i64)])) := [⟨73, s73, fun k (x : ByteArray × Int) => strings_IndexRune.p73 k x.1 x.2⟩, ⟨2, s2, fun k (x : ByteArray × ByteArray × Int × Int) => strings_IndexRune.p2 k x.1 x.2.1 x.2.2.1 x.2.2.2⟩, ⟨23, s23, fun k (x : ByteArray × ByteArray × Int × Int) => strings_IndexRune.p23 k x.1 x.2.1 x.2.2.1 x.2.2.2⟩, ⟨6, s6, fun k (x : ByteArray × ByteArray × Int × Int × Int) => strings_IndexRune.p6 k x.1 x.2.1 x.2.2.1 x.2.2.2.1 x.2.2.2.2⟩]
def fns : Nat → List (FuncId × FS) := fun k => [(158, strings_IndexByte.fs k), (159, utf8_ValidRune.fs k)]
def fs (k : Nat) : FS := ⟨[.str, (.int .i32)], [(.int .i64)], fun (x : ByteArray × Int) => strings_IndexRune.f k x.1 x.2⟩
theorem ok : FnO Tryz.prog 149 187 Tryz.f149 2 := okF _ (by kernel_rfl) (by kernel_rfl)
theorem c (k : Nat) : Contract Tryz.prog 149 (fs k) :=
  fnS [.str, (.int .i32)] [(.int .i64)] ptL fns fgs0 fws0 (fun k (x : ByteArray × Int) => strings_IndexRune.f k x.1 x.2) ok ⟨⟨rfl, fun _ => rfl, fun k x => by kernel_rfl⟩, ⟨rfl, fun _ => rfl, fun k x => by kernel_rfl⟩, ⟨rfl, fun _ => rfl, fun k x => by kernel_rfl⟩, ⟨rfl, fun _ => rfl, fun k x => by kernel_rfl⟩, trivial⟩ (fun k x => by kernel_rfl) (fun k => ⟨⟨strings_IndexByte.c k, utf8_ValidRune.c k, trivial⟩, trivial, trivial⟩) k
end strings_IndexRune

namespace strings_ContainsRune
def ptL : List (Pt (TD [.bool])) := []
def fns : Nat → List (FuncId × FS) := fun k => [(149, strings_IndexRune.fs k)]
def fs (k : Nat) : FS := ⟨[.str, (.int .i32)], [.bool], fun (x : ByteArray × Int) => strings_ContainsRune.f k x.1 x.2⟩
theorem ok : FnO Tryz.prog 137 9 Tryz.f137 2 := okF _ (by kernel_rfl) (by kernel_rfl)
theorem c (k : Nat) : Contract Tryz.prog 137 (fs k) :=
  fnS [.str, (.int .i32)] [.bool] ptL fns fgs0 fws0 (fun k (x : ByteArray × Int) => strings_ContainsRune.f k x.1 x.2) ok trivial (fun k x => by kernel_rfl) (fun k => ⟨⟨strings_IndexRune.c k, trivial⟩, trivial, trivial⟩) k
end strings_ContainsRune

namespace strings_trimRightUnicode
def s0 : PSig := ⟨0, [], [(0, .val .str), (1, .val .str)]⟩
def s11 : PSig := ⟨0, [], [(0, .val .str), (1, .val .str), (5, .val (.int .i32)), (6, .val (.int .i64))]⟩
def ptL : List (Pt (TD [.str])) := [⟨0, s0, fun k (x : ByteArray × ByteArray) => strings_trimRightUnicode.p0 k x.1 x.2⟩, ⟨11, s11, fun k (x : ByteArray × ByteArray × Int × Int) => strings_trimRightUnicode.p11 k x.1 x.2.1 x.2.2.1 x.2.2.2⟩]
def fns : Nat → List (FuncId × FS) := fun k => [(144, utf8_DecodeLastRuneInString.fs k), (137, strings_ContainsRune.fs k)]
def fs (k : Nat) : FS := ⟨[.str, .str], [.str], fun (x : ByteArray × ByteArray) => strings_trimRightUnicode.f k x.1 x.2⟩
theorem ok : FnO Tryz.prog 129 34 Tryz.f129 2 := okF _ (by kernel_rfl) (by kernel_rfl)
theorem c (k : Nat) : Contract Tryz.prog 129 (fs k) :=
  fnS [.str, .str] [.str] ptL fns fgs0 fws0 (fun k (x : ByteArray × ByteArray) => strings_trimRightUnicode.f k x.1 x.2) ok ⟨⟨rfl, fun _ => rfl, fun k x => by kernel_rfl⟩, ⟨rfl, fun _ => rfl, fun k x => by kernel_rfl⟩, trivial⟩ (fun k x => by kernel_rfl) (fun k => ⟨⟨utf8_DecodeLastRuneInString.c k, strings_ContainsRune.c k, trivial⟩, trivial, trivial⟩) k
end strings_trimRightUnicode

namespace strings_TrimRight
def s5 : PSig := ⟨0, [], [(0, .val .str)]⟩
def s11 : PSig := ⟨0, [], [(0, .val .str), (1, .val .str)]⟩
def ptL : List (Pt (TD [.str])) := [⟨5, s5, fun k (x : ByteArray) => strings_TrimRight.p5 k x⟩, ⟨11, s11, fun k (x : ByteArray × ByteArray) => strings_TrimRight.p11 k x.1 x.2⟩]
def fns : Nat → List (FuncId × FS) := fun k => [(127, strings_trimRightByte.fs k)]
def fs (k : Nat) : FS := ⟨[.str, .str], [.str], fun (x : ByteArray × ByteArray) => strings_TrimRight.f k x.1 x.2⟩
theorem ok : FnO Tryz.prog 94 37 Tryz.f94 2 := okF _ (by kernel_rfl) (by kernel_rfl)
theorem c (k : Nat) : Contract Tryz.prog 94 (fs k) :=
  fnS [.str, .str] [.str] ptL fns fgs0 fws0 (fun k (x : ByteArray × ByteArray) => strings_TrimRight.f k x.1 x.2) ok ⟨⟨rfl, fun _ => rfl, fun k x => by kernel_rfl⟩, ⟨rfl, fun _ => rfl, fun k x => by kernel_rfl⟩, trivial⟩ (fun k x => by kernel_rfl) (fun k => ⟨⟨strings_trimRightByte.c k, trivial⟩, trivial, trivial⟩) k
end strings_TrimRight

namespace intconv_small
def ptL : List (Pt (TD [.str])) := []
def fs (k : Nat) : FS := ⟨[(.int .i64)], [.str], fun (x : Int) => intconv_small.f k x⟩
theorem ok : FnO Tryz.prog 154 15 Tryz.f154 1 := okF _ (by kernel_rfl) (by kernel_rfl)
theorem c (k : Nat) : Contract Tryz.prog 154 (fs k) :=
  fnS [(.int .i64)] [.str] ptL fns0 fgs0 fws0 (fun k (x : Int) => intconv_small.f k x) ok trivial (fun k x => by kernel_rfl) (fun _ => ⟨trivial, trivial, trivial⟩) k
end intconv_small

namespace bits_Len64
def s9 : PSig := ⟨0, [], [(0, .val (.int .u64)), (2, .val (.int .i64))]⟩
def s15 : PSig := ⟨0, [], [(0, .val (.int .u64)), (2, .val (.int .i64))]⟩
def s21 : PSig := ⟨0, [], [(0, .val (.int .u64)), (2, .val (.int .i64))]⟩
def ptL : List (Pt (TD [(.int .i64)])) := [⟨9, s9, fun k (x : Int × Int) => bits_Len64.p9 k x.1 x.2⟩, ⟨15, s15, fun k (x : Int × Int) => bits_Len64.p15 k x.1 x.2⟩, ⟨21, s21, fun k (x : Int × Int) => bits_Len64.p21 k x.1 x.2⟩]
def fs (k : Nat) : FS := ⟨[(.int .u64)], [(.int .i64)], fun (x : Int) => bits_Len64.f k x⟩
theorem ok : FnO Tryz.prog 165 25 Tryz.f165 1 := okF _ (by kernel_rfl) (by kernel_rfl)
theorem c (k : Nat) : Contract Tryz.prog 165 (fs k) :=
  fnS [(.int .u64)] [(.int .i64)] ptL fns0 fgs0 fws0 (fun k (x : Int) => bits_Len64.f k x) ok ⟨⟨rfl, fun _ => rfl, fun k x => by kernel_rfl⟩, ⟨rfl, fun _ => rfl, fun k x => by kernel_rfl⟩, ⟨rfl, fun _ => rfl, fun k x => by kernel_rfl⟩, trivial⟩ (fun k x => by kernel_rfl) (fun _ => ⟨trivial, trivial, trivial⟩) k
end bits_Len64

namespace intconv_log10Pow2
def ptL : List (Pt (TD [(.int .i64)])) := []
def fs (k : Nat) : FS := ⟨[(.int .i64)], [(.int .i64)], fun (x : Int) => intconv_log10Pow2.f k x⟩
theorem ok : FnO Tryz.prog 164 6 Tryz.f164 1 := okF _ (by kernel_rfl) (by kernel_rfl)
theorem c (k : Nat) : Contract Tryz.prog 164 (fs k) :=
  fnS [(.int .i64)] [(.int .i64)] ptL fns0 fgs0 fws0 (fun k (x : Int) => intconv_log10Pow2.f k x) ok trivial (fun k x => by kernel_rfl) (fun _ => ⟨trivial, trivial, trivial⟩) k
end intconv_log10Pow2

namespace intconv_bool2_int_
def ptL : List (Pt (TD [(.int .i64)])) := []
def fs (k : Nat) : FS := ⟨[.bool], [(.int .i64)], fun (x : Bool) => intconv_bool2_int_.f k x⟩
theorem ok : FnO Tryz.prog 166 4 Tryz.f166 1 := okF _ (by kernel_rfl) (by kernel_rfl)
theorem c (k : Nat) : Contract Tryz.prog 166 (fs k) :=
  fnS [.bool] [(.int .i64)] ptL fns0 fgs0 fws0 (fun k (x : Bool) => intconv_bool2_int_.f k x) ok trivial (fun k x => by kernel_rfl) (fun _ => ⟨trivial, trivial, trivial⟩) k
end intconv_bool2_int_

namespace intconv_isPowerOfTwo
def ptL : List (Pt (TD [.bool])) := []
def fs (k : Nat) : FS := ⟨[(.int .i64)], [.bool], fun (x : Int) => intconv_isPowerOfTwo.f k x⟩
theorem ok : FnO Tryz.prog 167 8 Tryz.f167 1 := okF _ (by kernel_rfl) (by kernel_rfl)
theorem c (k : Nat) : Contract Tryz.prog 167 (fs k) :=
  fnS [(.int .i64)] [.bool] ptL fns0 fgs0 fws0 (fun k (x : Int) => intconv_isPowerOfTwo.f k x) ok trivial (fun k x => by kernel_rfl) (fun _ => ⟨trivial, trivial, trivial⟩) k
end intconv_isPowerOfTwo

namespace bits_TrailingZeros32
def ptL : List (Pt (TD [(.int .i64)])) := []
def fs (k : Nat) : FS := ⟨[(.int .u32)], [(.int .i64)], fun (x : Int) => bits_TrailingZeros32.f k x⟩
theorem ok : FnO Tryz.prog 170 14 Tryz.f170 1 := okF _ (by kernel_rfl) (by kernel_rfl)
theorem c (k : Nat) : Contract Tryz.prog 170 (fs k) :=
  fnS [(.int .u32)] [(.int .i64)] ptL fns0 fgs0 fws0 (fun k (x : Int) => bits_TrailingZeros32.f k x) ok trivial (fun k x => by kernel_rfl) (fun _ => ⟨trivial, trivial, trivial⟩) k
end bits_TrailingZeros32

namespace bits_TrailingZeros64
def ptL : List (Pt (TD [(.int .i64)])) := []
def fs (k : Nat) : FS := ⟨[(.int .u64)], [(.int .i64)], fun (x : Int) => bits_TrailingZeros64.f k x⟩
theorem ok : FnO Tryz.prog 171 14 Tryz.f171 1 := okF _ (by kernel_rfl) (by kernel_rfl)
theorem c (k : Nat) : Contract Tryz.prog 171 (fs k) :=
  fnS [(.int .u64)] [(.int .i64)] ptL fns0 fgs0 fws0 (fun k (x : Int) => bits_TrailingZeros64.f k x) ok trivial (fun k x => by kernel_rfl) (fun _ => ⟨trivial, trivial, trivial⟩) k
end bits_TrailingZeros64

namespace bits_TrailingZeros
def ptL : List (Pt (TD [(.int .i64)])) := []
def fns : Nat → List (FuncId × FS) := fun k => [(171, bits_TrailingZeros64.fs k)]
def fs (k : Nat) : FS := ⟨[(.int .u64)], [(.int .i64)], fun (x : Int) => bits_TrailingZeros.f k x⟩
theorem ok : FnO Tryz.prog 168 8 Tryz.f168 1 := okF _ (by kernel_rfl) (by kernel_rfl)
theorem c (k : Nat) : Contract Tryz.prog 168 (fs k) :=
  fnS [(.int .u64)] [(.int .i64)] ptL fns fgs0 fws0 (fun k (x : Int) => bits_TrailingZeros.f k x) ok trivial (fun k x => by kernel_rfl) (fun k => ⟨⟨bits_TrailingZeros64.c k, trivial⟩, trivial, trivial⟩) k
end bits_TrailingZeros

namespace intconv_FormatInt
def s9 : PSig := ⟨0, [], [(0, .val (.int .i64))]⟩
def ptL : List (Pt (TD [.str])) := [⟨9, s9, fun k (x : Int) => intconv_FormatInt.p9 k x⟩]
def fns : Nat → List (FuncId × FS) := fun k => [(154, intconv_small.fs k)]
def fs (k : Nat) : FS := ⟨[(.int .i64), (.int .i64)], [.str], fun (x : Int × Int) => intconv_FormatInt.f k x.1 x.2⟩
theorem ok : FnO Tryz.prog 145 54 Tryz.f145 2 := okF _ (by kernel_rfl) (by kernel_rfl)
theorem c (k : Nat) : Contract Tryz.prog 145 (fs k) :=
  fnS [(.int .i64), (.int .i64)] [.str] ptL fns fgs0 fws0 (fun k (x : Int × Int) => intconv_FormatInt.f k x.1 x.2) ok ⟨⟨rfl, fun _ => rfl, fun k x => by kernel_rfl⟩, trivial⟩ (fun k x => by kernel_rfl) (fun k => ⟨⟨intconv_small.c k, trivial⟩, trivial, trivial⟩) k
end intconv_FormatInt

namespace intconv_Itoa
def ptL : List (Pt (TD [.str])) := []
def fns : Nat → List (FuncId × FS) := fun k => [(145, intconv_FormatInt.fs k)]
def fs (k : Nat) : FS := ⟨[(.int .i64)], [.str], fun (x : Int) => intconv_Itoa.f k x⟩
theorem ok : FnO Tryz.prog 130 5 Tryz.f130 1 := okF _ (by kernel_rfl) (by kernel_rfl)
theorem c (k : Nat) : Contract Tryz.prog 130 (fs k) :=
  fnS [(.int .i64)] [.str] ptL fns fgs0 fws0 (fun k (x : Int) => intconv_Itoa.f k x) ok trivial (fun k x => by kernel_rfl) (fun k => ⟨⟨intconv_FormatInt.c k, trivial⟩, trivial, trivial⟩) k
end intconv_Itoa

namespace strconv_Itoa
theorem c (k : Nat) : Contract Tryz.prog 95 ⟨[.int .i64], [.str], fun (x : Int) => strconv_Itoa.f k x⟩ := itoa_contract (fun _ => rfl)
end strconv_Itoa

namespace approx_text
def s9 : PSig := ⟨0, [], [(0, .val .str), (1, .val (.int .i64))]⟩
def ptL : List (Pt (TD [.str])) := [⟨9, s9, fun k (x : ByteArray × Int) => approx_text.p9 k x.1 x.2⟩]
def fns : Nat → List (FuncId × FS) := fun k => [(94, strings_TrimRight.fs k), (95, ⟨[(.int .i64)], [.str], fun (x : Int) => strconv_Itoa.f k x⟩)]
def fs (k : Nat) : FS := ⟨[.str, (.int .i64)], [.str], fun (x : ByteArray × Int) => approx_text.f k x.1 x.2⟩
theorem ok : FnO Tryz.prog 52 21 Tryz.f52 2 := okF _ (by kernel_rfl) (by kernel_rfl)
theorem c (k : Nat) : Contract Tryz.prog 52 (fs k) :=
  fnS [.str, (.int .i64)] [.str] ptL fns fgs0 fws0 (fun k (x : ByteArray × Int) => approx_text.f k x.1 x.2) ok ⟨⟨rfl, fun _ => rfl, fun k x => by kernel_rfl⟩, trivial⟩ (fun k x => by kernel_rfl) (fun k => ⟨⟨strings_TrimRight.c k, strconv_Itoa.c k, trivial⟩, trivial, trivial⟩) k
end approx_text

namespace stringslite_HasPrefix
def ptL : List (Pt (TD [.bool])) := []
def fs (k : Nat) : FS := ⟨[.str, .str], [.bool], fun (x : ByteArray × ByteArray) => stringslite_HasPrefix.f k x.1 x.2⟩
theorem ok : FnO Tryz.prog 84 18 Tryz.f84 2 := okF _ (by kernel_rfl) (by kernel_rfl)
theorem c (k : Nat) : Contract Tryz.prog 84 (fs k) :=
  fnS [.str, .str] [.bool] ptL fns0 fgs0 fws0 (fun k (x : ByteArray × ByteArray) => stringslite_HasPrefix.f k x.1 x.2) ok trivial (fun k x => by kernel_rfl) (fun _ => ⟨trivial, trivial, trivial⟩) k
end stringslite_HasPrefix

namespace stringslite_CutPrefix
def ptL : List (Pt (TD [.str, .bool])) := []
def fns : Nat → List (FuncId × FS) := fun k => [(84, stringslite_HasPrefix.fs k)]
def fs (k : Nat) : FS := ⟨[.str, .str], [.str, .bool], fun (x : ByteArray × ByteArray) => stringslite_CutPrefix.f k x.1 x.2⟩
theorem ok : FnO Tryz.prog 42 15 Tryz.f42 2 := okF _ (by kernel_rfl) (by kernel_rfl)
theorem c (k : Nat) : Contract Tryz.prog 42 (fs k) :=
  fnS [.str, .str] [.str, .bool] ptL fns fgs0 fws0 (fun k (x : ByteArray × ByteArray) => stringslite_CutPrefix.f k x.1 x.2) ok trivial (fun k x => by kernel_rfl) (fun k => ⟨⟨stringslite_HasPrefix.c k, trivial⟩, trivial, trivial⟩) k
end stringslite_CutPrefix

namespace strings_CutPrefix
def ptL : List (Pt (TD [.str, .bool])) := []
def fns : Nat → List (FuncId × FS) := fun k => [(42, stringslite_CutPrefix.fs k)]
def fs (k : Nat) : FS := ⟨[.str, .str], [.str, .bool], fun (x : ByteArray × ByteArray) => strings_CutPrefix.f k x.1 x.2⟩
theorem ok : FnO Tryz.prog 16 11 Tryz.f16 2 := okF _ (by kernel_rfl) (by kernel_rfl)
theorem c (k : Nat) : Contract Tryz.prog 16 (fs k) :=
  fnS [.str, .str] [.str, .bool] ptL fns fgs0 fws0 (fun k (x : ByteArray × ByteArray) => strings_CutPrefix.f k x.1 x.2) ok trivial (fun k x => by kernel_rfl) (fun k => ⟨⟨stringslite_CutPrefix.c k, trivial⟩, trivial, trivial⟩) k
end strings_CutPrefix

namespace approx_digits
def s0 : PSig := ⟨0, [], [(0, .val .str), (4, .val (.int .i64))]⟩
def s9 : PSig := ⟨0, [], [(0, .val .str), (4, .val (.int .i64))]⟩
def ptL : List (Pt (TD [.str, .str])) := [⟨0, s0, fun k (x : ByteArray × Int) => approx_digits.p0 k x.1 x.2⟩, ⟨9, s9, fun k (x : ByteArray × Int) => approx_digits.p9 k x.1 x.2⟩]
def fs (k : Nat) : FS := ⟨[.str], [.str, .str], fun (x : ByteArray) => approx_digits.f k x⟩
theorem ok : FnO Tryz.prog 43 29 Tryz.f43 1 := okF _ (by kernel_rfl) (by kernel_rfl)
theorem c (k : Nat) : Contract Tryz.prog 43 (fs k) :=
  fnS [.str] [.str, .str] ptL fns0 fgs0 fws0 (fun k (x : ByteArray) => approx_digits.f k x) ok ⟨⟨rfl, fun _ => rfl, fun k x => by kernel_rfl⟩, ⟨rfl, fun _ => rfl, fun k x => by kernel_rfl⟩, trivial⟩ (fun k x => by kernel_rfl) (fun _ => ⟨trivial, trivial, trivial⟩) k
end approx_digits

namespace strings_HasPrefix
def ptL : List (Pt (TD [.bool])) := []
def fns : Nat → List (FuncId × FS) := fun k => [(84, stringslite_HasPrefix.fs k)]
def fs (k : Nat) : FS := ⟨[.str, .str], [.bool], fun (x : ByteArray × ByteArray) => strings_HasPrefix.f k x.1 x.2⟩
theorem ok : FnO Tryz.prog 85 8 Tryz.f85 2 := okF _ (by kernel_rfl) (by kernel_rfl)
theorem c (k : Nat) : Contract Tryz.prog 85 (fs k) :=
  fnS [.str, .str] [.bool] ptL fns fgs0 fws0 (fun k (x : ByteArray × ByteArray) => strings_HasPrefix.f k x.1 x.2) ok trivial (fun k x => by kernel_rfl) (fun k => ⟨⟨stringslite_HasPrefix.c k, trivial⟩, trivial, trivial⟩) k
end strings_HasPrefix

namespace strings_trimLeftByte
def s0 : PSig := ⟨0, [], [(0, .val .str), (1, .val (.int .u8))]⟩
def s7 : PSig := ⟨0, [], [(0, .val .str)]⟩
def ptL : List (Pt (TD [.str])) := [⟨0, s0, fun k (x : ByteArray × Int) => strings_trimLeftByte.p0 k x.1 x.2⟩, ⟨7, s7, fun k (x : ByteArray) => strings_trimLeftByte.p7 k x⟩]
def fs (k : Nat) : FS := ⟨[.str, (.int .u8)], [.str], fun (x : ByteArray × Int) => strings_trimLeftByte.f k x.1 x.2⟩
theorem ok : FnO Tryz.prog 116 17 Tryz.f116 2 := okF _ (by kernel_rfl) (by kernel_rfl)
theorem c (k : Nat) : Contract Tryz.prog 116 (fs k) :=
  fnS [.str, (.int .u8)] [.str] ptL fns0 fgs0 fws0 (fun k (x : ByteArray × Int) => strings_trimLeftByte.f k x.1 x.2) ok ⟨⟨rfl, fun _ => rfl, fun k x => by kernel_rfl⟩, ⟨rfl, fun _ => rfl, fun k x => by kernel_rfl⟩, trivial⟩ (fun k x => by kernel_rfl) (fun _ => ⟨trivial, trivial, trivial⟩) k
end strings_trimLeftByte

namespace strings_trimLeftUnicode
def s0 : PSig := ⟨0, [], [(0, .val .str), (1, .val .str)]⟩
def s11 : PSig := ⟨0, [], [(0, .val .str)]⟩
def ptL : List (Pt (TD [.str])) := [⟨0, s0, fun k (x : ByteArray × ByteArray) => strings_trimLeftUnicode.p0 k x.1 x.2⟩, ⟨11, s11, fun k (x : ByteArray) => strings_trimLeftUnicode.p11 k x⟩]
def fns : Nat → List (FuncId × FS) := fun k => [(136, utf8_DecodeRuneInString.fs k), (137, strings_ContainsRune.fs k)]
def fs (k : Nat) : FS := ⟨[.str, .str], [.str], fun (x : ByteArray × ByteArray) => strings_trimLeftUnicode.f k x.1 x.2⟩
theorem ok : FnO Tryz.prog 119 23 Tryz.f119 2 := okF _ (by kernel_rfl) (by kernel_rfl)
theorem c (k : Nat) : Contract Tryz.prog 119 (fs k) :=
  fnS [.str, .str] [.str] ptL fns fgs0 fws0 (fun k (x : ByteArray × ByteArray) => strings_trimLeftUnicode.f k x.1 x.2) ok ⟨⟨rfl, fun _ => rfl, fun k x => by kernel_rfl⟩, ⟨rfl, fun _ => rfl, fun k x => by kernel_rfl⟩, trivial⟩ (fun k x => by kernel_rfl) (fun k => ⟨⟨utf8_DecodeRuneInString.c k, strings_ContainsRune.c k, trivial⟩, trivial, trivial⟩) k
end strings_trimLeftUnicode

namespace strings_TrimLeft
def s5 : PSig := ⟨0, [], [(0, .val .str)]⟩
def s11 : PSig := ⟨0, [], [(0, .val .str), (1, .val .str)]⟩
def ptL : List (Pt (TD [.str])) := [⟨5, s5, fun k (x : ByteArray) => strings_TrimLeft.p5 k x⟩, ⟨11, s11, fun k (x : ByteArray × ByteArray) => strings_TrimLeft.p11 k x.1 x.2⟩]
def fns : Nat → List (FuncId × FS) := fun k => [(116, strings_trimLeftByte.fs k)]
def fs (k : Nat) : FS := ⟨[.str, .str], [.str], fun (x : ByteArray × ByteArray) => strings_TrimLeft.f k x.1 x.2⟩
theorem ok : FnO Tryz.prog 86 37 Tryz.f86 2 := okF _ (by kernel_rfl) (by kernel_rfl)
theorem c (k : Nat) : Contract Tryz.prog 86 (fs k) :=
  fnS [.str, .str] [.str] ptL fns fgs0 fws0 (fun k (x : ByteArray × ByteArray) => strings_TrimLeft.f k x.1 x.2) ok ⟨⟨rfl, fun _ => rfl, fun k x => by kernel_rfl⟩, ⟨rfl, fun _ => rfl, fun k x => by kernel_rfl⟩, trivial⟩ (fun k x => by kernel_rfl) (fun k => ⟨⟨strings_trimLeftByte.c k, trivial⟩, trivial, trivial⟩) k
end strings_TrimLeft

namespace intconv_lower
def ptL : List (Pt (TD [(.int .u8)])) := []
def fs (k : Nat) : FS := ⟨[(.int .u8)], [(.int .u8)], fun (x : Int) => intconv_lower.f k x⟩
theorem ok : FnO Tryz.prog 162 5 Tryz.f162 1 := okF _ (by kernel_rfl) (by kernel_rfl)
theorem c (k : Nat) : Contract Tryz.prog 162 (fs k) :=
  fnS [(.int .u8)] [(.int .u8)] ptL fns0 fgs0 fws0 (fun k (x : Int) => intconv_lower.f k x) ok trivial (fun k x => by kernel_rfl) (fun _ => ⟨trivial, trivial, trivial⟩) k
end intconv_lower

namespace intconv_underscoreOK
def s9 : PSig := ⟨0, [], [(0, .val .str), (3, .val (.int .i32)), (4, .val (.int .i64))]⟩
def s11 : PSig := ⟨0, [], [(0, .val .str), (3, .val (.int .i32)), (4, .val (.int .i64))]⟩
def s15 : PSig := ⟨0, [], [(0, .val .str)]⟩
def s0 : PSig := ⟨0, [], [(0, .val .str), (3, .val (.int .i32)), (4, .val (.int .i64)), (5, .val .bool)]⟩
def s27 : PSig := ⟨0, [], [(0, .val .str), (4, .val (.int .i64)), (5, .val .bool)]⟩
def s29 : PSig := ⟨0, [], [(0, .val .str), (3, .val (.int .i32)), (4, .val (.int .i64)), (5, .val .bool)]⟩
def s23 : PSig := ⟨0, [], [(0, .val .str), (3, .val (.int .i32)), (4, .val (.int .i64)), (5, .val .bool)]⟩
def ptL : List (Pt (TD [.bool])) := [⟨9, s9, fun k (x : ByteArray × Int × Int) => intconv_underscoreOK.p9 k x.1 x.2.1 x.2.2⟩, ⟨11, s11, fun k (x : ByteArray × Int × Int) => intconv_underscoreOK.p11 k x.1 x.2.1 x.2.2⟩, ⟨15, s15, fun k (x : ByteArray) => intconv_underscoreOK.p15 k x⟩, ⟨0, s0, fun k (x : ByteArray × Int × Int × Bool) => intconv_underscoreOK.p0 k x.1 x.2.1 x.2.2.1 x.2.2.2⟩, ⟨27, s27, fun k (x : ByteArray × Int × Bool) => intconv_underscoreOK.p27 k x.1 x.2.1 x.2.2⟩, ⟨29, s29, fun k (x : ByteArray × Int × Int × Bool) => intconv_underscoreOK.p29 k x.1 x.2.1 x.2.2.1 x.2.2.2⟩, ⟨23, s23, fun k (x : ByteArray × Int × Int × Bool) => intconv_underscoreOK.p23 k x.1 x.2.1 x.2.2.1 x.2.2.2⟩]
def fns : Nat → List (FuncId × FS) := fun k => [(162, intconv_lower.fs k)]
def fs (k : Nat) : FS := ⟨[.str], [.bool], fun (x : ByteArray) => intconv_underscoreOK.f k x⟩
theorem ok : FnO Tryz.prog 163 94 Tryz.f163 1 := okF _ (by kernel_rfl) (by kernel_rfl)
theorem c (k : Nat) : Contract Tryz.prog 163 (fs k) :=
  fnS [.str] [.bool] ptL fns fgs0 fws0 (fun k (x : ByteArray) => intconv_underscoreOK.f k x) ok ⟨⟨rfl, fun _ => rfl, fun k x => by kernel_rfl⟩, ⟨rfl, fun _ => rfl, fun k x => by kernel_rfl⟩, ⟨rfl, fun _ => rfl, fun k x => by kernel_rfl⟩, ⟨rfl, fun _ => rfl, fun k x => by kernel_rfl⟩, ⟨rfl, fun _ => rfl, fun k x => by kernel_rfl⟩, ⟨rfl, fun _ => rfl, fun k x => by kernel_rfl⟩, ⟨rfl, fun _ => rfl, fun k x => by kernel_rfl⟩, trivial⟩ (fun k x => by kernel_rfl) (fun k => ⟨⟨intconv_lower.c k, trivial⟩, trivial, trivial⟩) k
end intconv_underscoreOK

namespace intconv_ParseUint
def s43 : PSig := ⟨0, [], [(0, .val .str), (1, .val (.int .i64)), (2, .val (.int .i64)), (8, .val .bool), (9, .val .str)]⟩
def s15 : PSig := ⟨0, [], [(0, .val .str), (1, .val (.int .i64)), (2, .val (.int .i64)), (8, .val .bool), (9, .val .str)]⟩
def s51 : PSig := ⟨0, [], [(0, .val .str), (1, .val (.int .i64)), (2, .val (.int .i64)), (8, .val .bool), (9, .val .str)]⟩
def s49 : PSig := ⟨0, [], []⟩
def s31 : PSig := ⟨0, [], [(0, .val .str), (2, .val (.int .i64)), (8, .val .bool), (9, .val .str)]⟩
def s65 : PSig := ⟨0, [], [(0, .val .str), (1, .val (.int .i64)), (2, .val (.int .i64)), (8, .val .bool), (9, .val .str), (10, .val (.int .u64))]⟩
def s37 : PSig := ⟨0, [], [(0, .val .str), (2, .val (.int .i64)), (8, .val .bool), (9, .val .str)]⟩
def s6 : PSig := ⟨0, [], [(1, .val (.int .i64)), (8, .val .bool), (9, .val .str), (10, .val (.int .u64)), (11, .val (.int .u64)), (12, .val .bool), (13, .val (.int .u64)), (99, .val (.list (.int .u8))), (100, .val (.int .i64)), (101, .val (.int .i64))]⟩
def s21 : PSig := ⟨0, [], [(0, .val .str), (2, .val (.int .i64)), (8, .val .bool), (9, .val .str)]⟩
def s85 : PSig := ⟨0, [], [(1, .val (.int .i64)), (8, .val .bool), (9, .val .str), (10, .val (.int .u64)), (11, .val (.int .u64)), (12, .val .bool), (13, .val (.int .u64)), (15, .val (.int .u8)), (99, .val (.list (.int .u8))), (100, .val (.int .i64)), (101, .val (.int .i64))]⟩
def s117 : PSig := ⟨0, [], [(13, .val (.int .u64))]⟩
def s107 : PSig := ⟨0, [], [(11, .val (.int .u64))]⟩
def s89 : PSig := ⟨0, [], [(1, .val (.int .i64)), (8, .val .bool), (9, .val .str), (10, .val (.int .u64)), (11, .val (.int .u64)), (12, .val .bool), (13, .val (.int .u64)), (15, .val (.int .u8)), (99, .val (.list (.int .u8))), (100, .val (.int .i64)), (101, .val (.int .i64))]⟩
def s79 : PSig := ⟨0, [], []⟩
def ptL : List (Pt (TD [(.int .u64), .nilI])) := [⟨43, s43, fun k (x : ByteArray × Int × Int × Bool × ByteArray) => intconv_ParseUint.p43 k x.1 x.2.1 x.2.2.1 x.2.2.2.1 x.2.2.2.2⟩, ⟨15, s15, fun k (x : ByteArray × Int × Int × Bool × ByteArray) => intconv_ParseUint.p15 k x.1 x.2.1 x.2.2.1 x.2.2.2.1 x.2.2.2.2⟩, ⟨51, s51, fun k (x : ByteArray × Int × Int × Bool × ByteArray) => intconv_ParseUint.p51 k x.1 x.2.1 x.2.2.1 x.2.2.2.1 x.2.2.2.2⟩, ⟨49, s49, fun k (x : Unit) => intconv_ParseUint.p49 k x⟩, ⟨31, s31, fun k (x : ByteArray × Int × Bool × ByteArray) => intconv_ParseUint.p31 k x.1 x.2.1 x.2.2.1 x.2.2.2⟩, ⟨65, s65, fun k (x : ByteArray × Int × Int × Bool × ByteArray × Int) => intconv_ParseUint.p65 k x.1 x.2.1 x.2.2.1 x.2.2.2.1 x.2.2.2.2.1 x.2.2.2.2.2⟩, ⟨37, s37, fun k (x : ByteArray × Int × Bool × ByteArray) => intconv_ParseUint.p37 k x.1 x.2.1 x.2.2.1 x.2.2.2⟩, ⟨6, s6, fun k (x : Int × Bool × ByteArray × Int × Int × Bool × Int × LX × Int × Int) => intconv_ParseUint.p6 k x.1 x.2.1 x.2.2.1 x.2.2.2.1 x.2.2.2.2.1 x.2.2.2.2.2.1 x.2.2.2.2.2.2.1 x.2.2.2.2.2.2.2.1 x.2.2.2.2.2.2.2.2.1 x.2.2.2.2.2.2.2.2.2⟩, ⟨21, s21, fun k (x : ByteArray × Int × Bool × ByteArray) => intconv_ParseUint.p21 k x.1 x.2.1 x.2.2.1 x.2.2.2⟩, ⟨85, s85, fun k (x : Int × Bool × ByteArray × Int × Int × Bool × Int × Int × LX × Int × Int) => intconv_ParseUint.p85 k x.1 x.2.1 x.2.2.1 x.2.2.2.1 x.2.2.2.2.1 x.2.2.2.2.2.1 x.2.2.2.2.2.2.1 x.2.2.2.2.2.2.2.1 x.2.2.2.2.2.2.2.2.1 x.2.2.2.2.2.2.2.2.2.1 x.2.2.2.2.2.2.2.2.2.2⟩, ⟨117, s117, fun k (x : Int) => intconv_ParseUint.p117 k x⟩, ⟨107, s107, fun k (x : Int) => intconv_ParseUint.p107 k x⟩, ⟨89, s89, fun k (x : Int × Bool × ByteArray × Int × Int × Bool × Int × Int × LX × Int × Int) => intconv_ParseUint.p89 k x.1 x.2.1 x.2.2.1 x.2.2.2.1 x.2.2.2.2.1 x.2.2.2.2.2.1 x.2.2.2.2.2.2.1 x.2.2.2.2.2.2.2.1 x.2.2.2.2.2.2.2.2.1 x.2.2.2.2.2.2.2.2.2.1 x.2.2.2.2.2.2.2.2.2.2⟩, ⟨79, s79, fun k (x : Unit) => intconv_ParseUint.p79 k x⟩]
def fns : Nat → List (FuncId × FS) := fun k => [(162, intconv_lower.fs k), (163, intconv_underscoreOK.fs k)]
def fs (k : Nat) : FS := ⟨[.str, (.int .i64), (.int .i64)], [(.int .u64), .nilI], fun (x : ByteArray × Int × Int) => intconv_ParseUint.f k x.1 x.2.1 x.2.2⟩
theorem ok : FnO Tryz.prog 150 172 Tryz.f150 3 := okF _ (by kernel_rfl) (by kernel_rfl)
theorem c (k : Nat) : Contract Tryz.prog 150 (fs k) :=
  fnS [.str, (.int .i64), (.int .i64)] [(.int .u64), .nilI] ptL fns fgs0 fws0 (fun k (x : ByteArray × Int × Int) => intconv_ParseUint.f k x.1 x.2.1 x.2.2) ok ⟨⟨rfl, fun _ => rfl, fun k x => by kernel_rfl⟩, ⟨rfl, fun _ => rfl, fun k x => by kernel_rfl⟩, ⟨rfl, fun _ => rfl, fun k x => by kernel_rfl⟩, ⟨rfl, fun _ => rfl, fun k x => by kernel_rfl⟩, ⟨rfl, fun _ => rfl, fun k x => by kernel_rfl⟩, ⟨rfl, fun _ => rfl, fun k x => by kernel_rfl⟩, ⟨rfl, fun _ => rfl, fun k x => by kernel_rfl⟩, ⟨rfl, fun _ => rfl, fun k x => by kernel_rfl⟩, ⟨rfl, fun _ => rfl, fun k x => by kernel_rfl⟩, ⟨rfl, fun _ => rfl, fun k x => by kernel_rfl⟩, ⟨rfl, fun _ => rfl, fun k x => by kernel_rfl⟩, ⟨rfl, fun _ => rfl, fun k x => by kernel_rfl⟩, ⟨rfl, fun _ => rfl, fun k x => by kernel_rfl⟩, ⟨rfl, fun _ => rfl, fun k x => by kernel_rfl⟩, trivial⟩ (fun k x => by kernel_rfl) (fun k => ⟨⟨intconv_lower.c k, intconv_underscoreOK.c k, trivial⟩, trivial, trivial⟩) k
end intconv_ParseUint

namespace intconv_ParseInt
def s21 : PSig := ⟨0, [], [(0, .val .str), (1, .val (.int .i64)), (2, .val (.int .i64)), (8, .val .bool)]⟩
def s33 : PSig := ⟨0, [], [(2, .val (.int .i64)), (8, .val .bool), (9, .val (.int .u64))]⟩
def s39 : PSig := ⟨0, [], [(8, .val .bool), (9, .val (.int .u64)), (10, .val (.int .u64))]⟩
def s43 : PSig := ⟨0, [], [(8, .val .bool), (9, .val (.int .u64))]⟩
def s49 : PSig := ⟨0, [], [(11, .val (.int .i64))]⟩
def ptL : List (Pt (TD [(.int .i64), .nilI])) := [⟨21, s21, fun k (x : ByteArray × Int × Int × Bool) => intconv_ParseInt.p21 k x.1 x.2.1 x.2.2.1 x.2.2.2⟩, ⟨33, s33, fun k (x : Int × Bool × Int) => intconv_ParseInt.p33 k x.1 x.2.1 x.2.2⟩, ⟨39, s39, fun k (x : Bool × Int × Int) => intconv_ParseInt.p39 k x.1 x.2.1 x.2.2⟩, ⟨43, s43, fun k (x : Bool × Int) => intconv_ParseInt.p43 k x.1 x.2⟩, ⟨49, s49, fun k (x : Int) => intconv_ParseInt.p49 k x⟩]
def fns : Nat → List (FuncId × FS) := fun k => [(150, intconv_ParseUint.fs k)]
def fs (k : Nat) : FS := ⟨[.str, (.int .i64), (.int .i64)], [(.int .i64), .nilI], fun (x : ByteArray × Int × Int) => intconv_ParseInt.f k x.1 x.2.1 x.2.2⟩
theorem ok : FnO Tryz.prog 138 73 Tryz.f138 3 := okF _ (by kernel_rfl) (by kernel_rfl)
theorem c (k : Nat) : Contract Tryz.prog 138 (fs k) :=
  fnS [.str, (.int .i64), (.int .i64)] [(.int .i64), .nilI] ptL fns fgs0 fws0 (fun k (x : ByteArray × Int × Int) => intconv_ParseInt.f k x.1 x.2.1 x.2.2) ok ⟨⟨rfl, fun _ => rfl, fun k x => by kernel_rfl⟩, ⟨rfl, fun _ => rfl, fun k x => by kernel_rfl⟩, ⟨rfl, fun _ => rfl, fun k x => by kernel_rfl⟩, ⟨rfl, fun _ => rfl, fun k x => by kernel_rfl⟩, ⟨rfl, fun _ => rfl, fun k x => by kernel_rfl⟩, trivial⟩ (fun k x => by kernel_rfl) (fun k => ⟨⟨intconv_ParseUint.c k, trivial⟩, trivial, trivial⟩) k
end intconv_ParseInt

namespace intconv_Atoi
def s11 : PSig := ⟨0, [], [(0, .val .str), (5, .val .str)]⟩
def s0 : PSig := ⟨0, [], [(5, .val .str), (6, .val (.int .i64)), (47, .val (.list (.int .u8))), (48, .val (.int .i64)), (49, .val (.int .i64))]⟩
def s41 : PSig := ⟨0, [], [(0, .val .str)]⟩
def s39 : PSig := ⟨0, [], [(6, .val (.int .i64))]⟩
def ptL : List (Pt (TD [(.int .i64), .nilI])) := [⟨11, s11, fun k (x : ByteArray × ByteArray) => intconv_Atoi.p11 k x.1 x.2⟩, ⟨0, s0, fun k (x : ByteArray × Int × LX × Int × Int) => intconv_Atoi.p0 k x.1 x.2.1 x.2.2.1 x.2.2.2.1 x.2.2.2.2⟩, ⟨41, s41, fun k (x : ByteArray) => intconv_Atoi.p41 k x⟩, ⟨39, s39, fun k (x : Int) => intconv_Atoi.p39 k x⟩]
def fns : Nat → List (FuncId × FS) := fun k => [(138, intconv_ParseInt.fs k)]
def fs (k : Nat) : FS := ⟨[.str], [(.int .i64), .nilI], fun (x : ByteArray) => intconv_Atoi.f k x⟩
theorem ok : FnO Tryz.prog 120 77 Tryz.f120 1 := okF _ (by kernel_rfl) (by kernel_rfl)
theorem c (k : Nat) : Contract Tryz.prog 120 (fs k) :=
  fnS [.str] [(.int .i64), .nilI] ptL fns fgs0 fws0 (fun k (x : ByteArray) => intconv_Atoi.f k x) ok ⟨⟨rfl, fun _ => rfl, fun k x => by kernel_rfl⟩, ⟨rfl, fun _ => rfl, fun k x => by kernel_rfl⟩, ⟨rfl, fun _ => rfl, fun k x => by kernel_rfl⟩, ⟨rfl, fun _ => rfl, fun k x => by kernel_rfl⟩, trivial⟩ (fun k x => by kernel_rfl) (fun k => ⟨⟨intconv_ParseInt.c k, trivial⟩, trivial, trivial⟩) k
end intconv_Atoi

namespace stringslite_Clone
def ptL : List (Pt (TD [.str])) := []
def fs (k : Nat) : FS := ⟨[.str], [.str], fun (x : ByteArray) => stringslite_Clone.f k x⟩
theorem ok : FnO Tryz.prog 151 18 Tryz.f151 1 := okF _ (by kernel_rfl) (by kernel_rfl)
theorem c (k : Nat) : Contract Tryz.prog 151 (fs k) :=
  fnS [.str] [.str] ptL fns0 fgs0 fws0 (fun k (x : ByteArray) => stringslite_Clone.f k x) ok trivial (fun k x => by kernel_rfl) (fun _ => ⟨trivial, trivial, trivial⟩) k
end stringslite_Clone

namespace strconv_Atoi
def ptL : List (Pt (TD [(.int .i64), .nilI])) := []
def fns : Nat → List (FuncId × FS) := fun k => [(120, intconv_Atoi.fs k)]
def fs (k : Nat) : FS := ⟨[.str], [(.int .i64), .nilI], fun (x : ByteArray) => strconv_Atoi.f k x⟩
theorem ok : FnO Tryz.prog 87 18 Tryz.f87 1 := okF _ (by kernel_rfl) (by kernel_rfl)
theorem c (k : Nat) : Contract Tryz.prog 87 (fs k) :=
  fnS [.str] [(.int .i64), .nilI] ptL fns fgs0 fws0 (fun k (x : ByteArray) => strconv_Atoi.f k x) ok trivial (fun k x => by kernel_rfl) (fun k => ⟨⟨intconv_Atoi.c k, trivial⟩, trivial, trivial⟩) k
end strconv_Atoi

namespace approx_exponent
def s9 : PSig := ⟨0, [], [(0, .val .str), (4, .val (.int .i64))]⟩
def s11 : PSig := ⟨0, [], [(0, .val .str), (4, .val (.int .i64))]⟩
def s17 : PSig := ⟨0, [], []⟩
def ptL : List (Pt (TD [(.int .i64), .bool])) := [⟨9, s9, fun k (x : ByteArray × Int) => approx_exponent.p9 k x.1 x.2⟩, ⟨11, s11, fun k (x : ByteArray × Int) => approx_exponent.p11 k x.1 x.2⟩, ⟨17, s17, fun k (x : Unit) => approx_exponent.p17 k x⟩]
def fns : Nat → List (FuncId × FS) := fun k => [(85, strings_HasPrefix.fs k), (43, approx_digits.fs k), (86, strings_TrimLeft.fs k), (87, strconv_Atoi.fs k)]
def fs (k : Nat) : FS := ⟨[.str], [(.int .i64), .bool], fun (x : ByteArray) => approx_exponent.f k x⟩
theorem ok : FnO Tryz.prog 44 46 Tryz.f44 1 := okF _ (by kernel_rfl) (by kernel_rfl)
theorem c (k : Nat) : Contract Tryz.prog 44 (fs k) :=
  fnS [.str] [(.int .i64), .bool] ptL fns fgs0 fws0 (fun k (x : ByteArray) => approx_exponent.f k x) ok ⟨⟨rfl, fun _ => rfl, fun k x => by kernel_rfl⟩, ⟨rfl, fun _ => rfl, fun k x => by kernel_rfl⟩, ⟨rfl, fun _ => rfl, fun k x => by kernel_rfl⟩, trivial⟩ (fun k x => by kernel_rfl) (fun k => ⟨⟨strings_HasPrefix.c k, approx_digits.c k, strings_TrimLeft.c k, strconv_Atoi.c k, trivial⟩, trivial, trivial⟩) k
end approx_exponent

namespace nat_Parse
def s5 : PSig := ⟨0, [], []⟩
def s9 : PSig := ⟨0, [], []⟩
def s11 : PSig := ⟨0, [], [(0, .val .str), (1, .val (.int .i64))]⟩
def s0 : PSig := ⟨0, [(84, (.int .u32), false)], [(0, .val .str), (1, .val (.int .i64)), (6, .own 0), (31, .val (.int .i64)), (32, .val (.int .i64))]⟩
def s23 : PSig := ⟨0, [], []⟩
def s4 : PSig := ⟨0, [(84, (.int .u32), false)], [(0, .val .str), (1, .val (.int .i64)), (6, .own 0), (9, .val (.int .u64)), (31, .val (.int .i64)), (32, .val (.int .i64)), (59, .val (.int .i64)), (60, .val (.int .i64))]⟩
def s45 : PSig := ⟨0, [(84, (.int .u32), false)], [(0, .val .str), (1, .val (.int .i64)), (6, .own 0), (31, .val (.int .i64)), (32, .val (.int .i64))]⟩
def ptL : List (Pt (TD [tL, (.int .i64)])) := [⟨5, s5, fun k (x : Unit) => nat_Parse.p5 k x⟩, ⟨9, s9, fun k (x : Unit) => nat_Parse.p9 k x⟩, ⟨11, s11, fun k (x : ByteArray × Int) => nat_Parse.p11 k x.1 x.2⟩, ⟨0, s0, fun k (x : LX × ByteArray × Int × Int × Int) => nat_Parse.p0 k x.1 x.2.1 x.2.2.1 x.2.2.2.1 x.2.2.2.2⟩, ⟨23, s23, fun k (x : Unit) => nat_Parse.p23 k x⟩, ⟨4, s4, fun k (x : LX × ByteArray × Int × Int × Int × Int × Int × Int) => nat_Parse.p4 k x.1 x.2.1 x.2.2.1 x.2.2.2.1 x.2.2.2.2.1 x.2.2.2.2.2.1 x.2.2.2.2.2.2.1 x.2.2.2.2.2.2.2⟩, ⟨45, s45, fun k (x : LX × ByteArray × Int × Int × Int) => nat_Parse.p45 k x.1 x.2.1 x.2.2.1 x.2.2.2.1 x.2.2.2.2⟩]
def fns : Nat → List (FuncId × FS) := fun k => [(56, nat_own.fs k)]
def fs (k : Nat) : FS := ⟨[.str, (.int .i64)], [tL, (.int .i64)], fun (x : ByteArray × Int) => nat_Parse.f k x.1 x.2⟩
theorem ok : FnO Tryz.prog 88 91 Tryz.f88 2 := okF _ (by kernel_rfl) (by kernel_rfl)
theorem c (k : Nat) : Contract Tryz.prog 88 (fs k) :=
  fnS [.str, (.int .i64)] [tL, (.int .i64)] ptL fns fgs0 fws0 (fun k (x : ByteArray × Int) => nat_Parse.f k x.1 x.2) ok ⟨⟨rfl, fun _ => rfl, fun k x => by kernel_rfl⟩, ⟨rfl, fun _ => rfl, fun k x => by kernel_rfl⟩, ⟨rfl, fun _ => rfl, fun k x => by kernel_rfl⟩, ⟨rfl, fun _ => rfl, fun k x => by kernel_rfl⟩, ⟨rfl, fun _ => rfl, fun k x => by kernel_rfl⟩, ⟨rfl, fun _ => rfl, fun k x => by kernel_rfl⟩, ⟨rfl, fun _ => rfl, fun k x => by kernel_rfl⟩, trivial⟩ (fun k x => by kernel_rfl) (fun k => ⟨⟨nat_own.c k, trivial⟩, trivial, trivial⟩) k
end nat_Parse

namespace approx_number
def ptL : List (Pt (TD [tQ])) := []
def fns : Nat → List (FuncId × FS) := fun k => [(86, strings_TrimLeft.fs k), (88, nat_Parse.fs k), (28, whole_Of.fs k), (27, ratio_Of.fs k)]
def fs (k : Nat) : FS := ⟨[.str], [tQ], fun (x : ByteArray) => approx_number.f k x⟩
theorem ok : FnO Tryz.prog 45 25 Tryz.f45 1 := okF _ (by kernel_rfl) (by kernel_rfl)
theorem c (k : Nat) : Contract Tryz.prog 45 (fs k) :=
  fnS [.str] [tQ] ptL fns fgs0 fws0 (fun k (x : ByteArray) => approx_number.f k x) ok trivial (fun k x => by kernel_rfl) (fun k => ⟨⟨strings_TrimLeft.c k, nat_Parse.c k, whole_Of.c k, ratio_Of.c k, trivial⟩, trivial, trivial⟩) k
end approx_number

namespace approx_decimal
def s21 : PSig := ⟨0, [(36, tQ, true)], [(2, .ptr 0 []), (4, .val .str), (5, .val .str), (6, .val .str)]⟩
def s29 : PSig := ⟨0, [(36, tQ, true)], [(2, .ptr 0 []), (4, .val .str), (5, .val .str), (6, .val .str)]⟩
def ptL : List (Pt (TD [tQ, .bool])) := [⟨21, s21, fun k (x : RX × ByteArray × ByteArray × ByteArray) => approx_decimal.p21 k x.1 x.2.1 x.2.2.1 x.2.2.2⟩, ⟨29, s29, fun k (x : RX × ByteArray × ByteArray × ByteArray) => approx_decimal.p29 k x.1 x.2.1 x.2.2.1 x.2.2.2⟩]
def fns : Nat → List (FuncId × FS) := fun k => [(43, approx_digits.fs k), (16, strings_CutPrefix.fs k), (44, approx_exponent.fs k), (45, approx_number.fs k), (46, approx_ten.fs k), (29, ratio_Mul.fs k)]
def fs (k : Nat) : FS := ⟨[.str], [tQ, .bool], fun (x : ByteArray) => approx_decimal.f k x⟩
theorem ok : FnO Tryz.prog 17 63 Tryz.f17 1 := okF _ (by kernel_rfl) (by kernel_rfl)
theorem c (k : Nat) : Contract Tryz.prog 17 (fs k) :=
  fnS [.str] [tQ, .bool] ptL fns fgs0 fws0 (fun k (x : ByteArray) => approx_decimal.f k x) ok ⟨⟨rfl, fun _ => rfl, fun k x => by kernel_rfl⟩, ⟨rfl, fun _ => rfl, fun k x => by kernel_rfl⟩, trivial⟩ (fun k x => by kernel_rfl) (fun k => ⟨⟨approx_digits.c k, strings_CutPrefix.c k, approx_exponent.c k, approx_number.c k, approx_ten.c k, ratio_Mul.c k, trivial⟩, trivial, trivial⟩) k
end approx_decimal

namespace ratio_Sign
def ptL : List (Pt (TD [(.int .i64)])) := []
def fns : Nat → List (FuncId × FS) := fun k => [(61, ratio_Norm.fs k), (57, whole_Sign.fs k)]
def fs (k : Nat) : FS := ⟨[tQ], [(.int .i64)], fun (x : RX) => ratio_Sign.f k x⟩
theorem ok : FnO Tryz.prog 34 7 Tryz.f34 1 := okF _ (by kernel_rfl) (by kernel_rfl)
theorem c (k : Nat) : Contract Tryz.prog 34 (fs k) :=
  fnS [tQ] [(.int .i64)] ptL fns fgs0 fws0 (fun k (x : RX) => ratio_Sign.f k x) ok trivial (fun k x => by kernel_rfl) (fun k => ⟨⟨ratio_Norm.c k, whole_Sign.c k, trivial⟩, trivial, trivial⟩) k
end ratio_Sign

namespace ratio_Neg
def ptL : List (Pt (TD [tQ])) := []
def fns : Nat → List (FuncId × FS) := fun k => [(61, ratio_Norm.fs k), (58, whole_Neg.fs k)]
def fs (k : Nat) : FS := ⟨[tQ], [tQ], fun (x : RX) => ratio_Neg.f k x⟩
theorem ok : FnO Tryz.prog 71 11 Tryz.f71 1 := okF _ (by kernel_rfl) (by kernel_rfl)
theorem c (k : Nat) : Contract Tryz.prog 71 (fs k) :=
  fnS [tQ] [tQ] ptL fns fgs0 fws0 (fun k (x : RX) => ratio_Neg.f k x) ok trivial (fun k x => by kernel_rfl) (fun k => ⟨⟨ratio_Norm.c k, whole_Neg.c k, trivial⟩, trivial, trivial⟩) k
end ratio_Neg

namespace ratio_Abs
def ptL : List (Pt (TD [tQ])) := []
def fns : Nat → List (FuncId × FS) := fun k => [(34, ratio_Sign.fs k), (71, ratio_Neg.fs k), (61, ratio_Norm.fs k)]
def fs (k : Nat) : FS := ⟨[tQ], [tQ], fun (x : RX) => ratio_Abs.f k x⟩
theorem ok : FnO Tryz.prog 32 10 Tryz.f32 1 := okF _ (by kernel_rfl) (by kernel_rfl)
theorem c (k : Nat) : Contract Tryz.prog 32 (fs k) :=
  fnS [tQ] [tQ] ptL fns fgs0 fws0 (fun k (x : RX) => ratio_Abs.f k x) ok trivial (fun k x => by kernel_rfl) (fun k => ⟨⟨ratio_Sign.c k, ratio_Neg.c k, ratio_Norm.c k, trivial⟩, trivial, trivial⟩) k
end ratio_Abs

namespace approx_cut
def s9 : PSig := ⟨0, [], [(0, .val tL), (1, .val tL)]⟩
def ptL : List (Pt (TD [tL, tL, tL])) := [⟨9, s9, fun k (x : LX × LX) => approx_cut.p9 k x.1 x.2⟩]
def fns : Nat → List (FuncId × FS) := fun k => [(64, nat_Shift.fs k), (100, nat_Div.fs k)]
def fs (k : Nat) : FS := ⟨[tL, tL, (.int .i64)], [tL, tL, tL], fun (x : LX × LX × Int) => approx_cut.f k x.1 x.2.1 x.2.2⟩
theorem ok : FnO Tryz.prog 67 37 Tryz.f67 3 := okF _ (by kernel_rfl) (by kernel_rfl)
theorem c (k : Nat) : Contract Tryz.prog 67 (fs k) :=
  fnS [tL, tL, (.int .i64)] [tL, tL, tL] ptL fns fgs0 fws0 (fun k (x : LX × LX × Int) => approx_cut.f k x.1 x.2.1 x.2.2) ok ⟨⟨rfl, fun _ => rfl, fun k x => by kernel_rfl⟩, trivial⟩ (fun k x => by kernel_rfl) (fun k => ⟨⟨nat_Shift.c k, nat_Div.c k, trivial⟩, trivial, trivial⟩) k
end approx_cut

namespace nat_Small
def s0 : PSig := ⟨0, [], [(0, .val tL), (4, .val (.int .u64)), (12, .val (.int .i64)), (13, .val (.int .i64))]⟩
def ptL : List (Pt (TD [(.int .u64), .bool])) := [⟨0, s0, fun k (x : LX × Int × Int × Int) => nat_Small.p0 k x.1 x.2.1 x.2.2.1 x.2.2.2⟩]
def fns : Nat → List (FuncId × FS) := fun k => [(97, nat_trim.fs k)]
def fs (k : Nat) : FS := ⟨[tL], [(.int .u64), .bool], fun (x : LX) => nat_Small.f k x⟩
theorem ok : FnO Tryz.prog 68 28 Tryz.f68 1 := okF _ (by kernel_rfl) (by kernel_rfl)
theorem c (k : Nat) : Contract Tryz.prog 68 (fs k) :=
  fnS [tL] [(.int .u64), .bool] ptL fns fgs0 fws0 (fun k (x : LX) => nat_Small.f k x) ok ⟨⟨rfl, fun _ => rfl, fun k x => by kernel_rfl⟩, trivial⟩ (fun k x => by kernel_rfl) (fun k => ⟨⟨nat_trim.c k, trivial⟩, trivial, trivial⟩) k
end nat_Small

namespace approx_rounded
def s29 : PSig := ⟨0, [], [(7, .val (.int .i64)), (8, .val tL), (9, .val tL), (10, .val tL)]⟩
def s41 : PSig := ⟨0, [], [(9, .val tL), (10, .val tL), (13, .val (.int .u64))]⟩
def ptL : List (Pt (TD [(.int .u64), (.int .i64)])) := [⟨29, s29, fun k (x : Int × LX × LX × LX) => approx_rounded.p29 k x.1 x.2.1 x.2.2.1 x.2.2.2⟩, ⟨41, s41, fun k (x : LX × LX × Int) => approx_rounded.p41 k x.1 x.2.1 x.2.2⟩]
def fns : Nat → List (FuncId × FS) := fun k => [(34, ratio_Sign.fs k), (66, nat_Bits.fs k), (18, ⟨[.flt], [(.int .u64)], fun (x : Nat) => math_Float64bits.f k x⟩), (67, approx_cut.fs k), (68, nat_Small.fs k), (70, nat_Add.fs k), (69, nat_Cmp.fs k)]
def fs (k : Nat) : FS := ⟨[tQ], [(.int .u64), (.int .i64)], fun (x : RX) => approx_rounded.f k x⟩
theorem ok : FnO Tryz.prog 31 89 Tryz.f31 1 := okF _ (by kernel_rfl) (by kernel_rfl)
theorem c (k : Nat) : Contract Tryz.prog 31 (fs k) :=
  fnS [tQ] [(.int .u64), (.int .i64)] ptL fns fgs0 fws0 (fun k (x : RX) => approx_rounded.f k x) ok ⟨⟨rfl, fun _ => rfl, fun k x => by kernel_rfl⟩, ⟨rfl, fun _ => rfl, fun k x => by kernel_rfl⟩, trivial⟩ (fun k x => by kernel_rfl) (fun k => ⟨⟨ratio_Sign.c k, nat_Bits.c k, math_Float64bits.c k, approx_cut.c k, nat_Small.c k, nat_Add.c k, nat_Cmp.c k, trivial⟩, trivial, trivial⟩) k
end approx_rounded

namespace approx_float
def s7 : PSig := ⟨0, [], [(0, .val (.int .u64))]⟩
def ptL : List (Pt (TD [.flt])) := [⟨7, s7, fun k (x : Int) => approx_float.p7 k x⟩]
def fns : Nat → List (FuncId × FS) := fun k => [(72, ⟨[(.int .u64)], [.flt], fun (x : Int) => math_Float64frombits.f k x⟩)]
def fs (k : Nat) : FS := ⟨[(.int .u64), (.int .i64)], [.flt], fun (x : Int × Int) => approx_float.f k x.1 x.2⟩
theorem ok : FnO Tryz.prog 33 11 Tryz.f33 2 := okF _ (by kernel_rfl) (by kernel_rfl)
theorem c (k : Nat) : Contract Tryz.prog 33 (fs k) :=
  fnS [(.int .u64), (.int .i64)] [.flt] ptL fns fgs0 fws0 (fun k (x : Int × Int) => approx_float.f k x.1 x.2) ok ⟨⟨rfl, fun _ => rfl, fun k x => by kernel_rfl⟩, trivial⟩ (fun k x => by kernel_rfl) (fun k => ⟨⟨math_Float64frombits.c k, trivial⟩, trivial, trivial⟩) k
end approx_float

namespace approx_Nearest
def s7 : PSig := ⟨0, [(36, tQ, true)], [(1, .ptr 0 []), (3, .val (.int .u64))]⟩
def s9 : PSig := ⟨0, [(36, tQ, true)], [(1, .ptr 0 []), (3, .val (.int .u64))]⟩
def ptL : List (Pt (TD [.flt])) := [⟨7, s7, fun k (x : RX × Int) => approx_Nearest.p7 k x.1 x.2⟩, ⟨9, s9, fun k (x : RX × Int) => approx_Nearest.p9 k x.1 x.2⟩]
def fns : Nat → List (FuncId × FS) := fun k => [(32, ratio_Abs.fs k), (31, approx_rounded.fs k), (34, ratio_Sign.fs k), (33, approx_float.fs k)]
def fs (k : Nat) : FS := ⟨[tQ], [.flt], fun (x : RX) => approx_Nearest.f k x⟩
theorem ok : FnO Tryz.prog 12 28 Tryz.f12 1 := okF _ (by kernel_rfl) (by kernel_rfl)
theorem c (k : Nat) : Contract Tryz.prog 12 (fs k) :=
  fnS [tQ] [.flt] ptL fns fgs0 fws0 (fun k (x : RX) => approx_Nearest.f k x) ok ⟨⟨rfl, fun _ => rfl, fun k x => by kernel_rfl⟩, ⟨rfl, fun _ => rfl, fun k x => by kernel_rfl⟩, trivial⟩ (fun k x => by kernel_rfl) (fun k => ⟨⟨ratio_Abs.c k, approx_rounded.c k, ratio_Sign.c k, approx_float.c k, trivial⟩, trivial, trivial⟩) k
end approx_Nearest

namespace approx_Read
def ptL : List (Pt (TD [.flt, (.int .i64)])) := []
def fns : Nat → List (FuncId × FS) := fun k => [(16, strings_CutPrefix.fs k), (17, approx_decimal.fs k), (12, approx_Nearest.fs k)]
def fs (k : Nat) : FS := ⟨[.str], [.flt, (.int .i64)], fun (x : ByteArray) => approx_Read.f k x⟩
theorem ok : FnO Tryz.prog 6 31 Tryz.f6 1 := okF _ (by kernel_rfl) (by kernel_rfl)
theorem c (k : Nat) : Contract Tryz.prog 6 (fs k) :=
  fnS [.str] [.flt, (.int .i64)] ptL fns fgs0 fws0 (fun k (x : ByteArray) => approx_Read.f k x) ok trivial (fun k x => by kernel_rfl) (fun k => ⟨⟨strings_CutPrefix.c k, approx_decimal.c k, approx_Nearest.c k, trivial⟩, trivial, trivial⟩) k
end approx_Read

namespace ratio_Add
def ptL : List (Pt (TD [tQ])) := []
def fns : Nat → List (FuncId × FS) := fun k => [(61, ratio_Norm.fs k), (62, whole_Mul.fs k), (50, whole_Add.fs k), (63, nat_Mul.fs k), (59, ratio_made.fs k)]
def fs (k : Nat) : FS := ⟨[tQ, tQ], [tQ], fun (x : RX × RX) => ratio_Add.f k x.1 x.2⟩
theorem ok : FnO Tryz.prog 96 30 Tryz.f96 2 := okF _ (by kernel_rfl) (by kernel_rfl)
theorem c (k : Nat) : Contract Tryz.prog 96 (fs k) :=
  fnS [tQ, tQ] [tQ] ptL fns fgs0 fws0 (fun k (x : RX × RX) => ratio_Add.f k x.1 x.2) ok trivial (fun k x => by kernel_rfl) (fun k => ⟨⟨ratio_Norm.c k, whole_Mul.c k, whole_Add.c k, nat_Mul.c k, ratio_made.c k, trivial⟩, trivial, trivial⟩) k
end ratio_Add

namespace ratio_Sub
def ptL : List (Pt (TD [tQ])) := []
def fns : Nat → List (FuncId × FS) := fun k => [(71, ratio_Neg.fs k), (96, ratio_Add.fs k)]
def fs (k : Nat) : FS := ⟨[tQ, tQ], [tQ], fun (x : RX × RX) => ratio_Sub.f k x.1 x.2⟩
theorem ok : FnO Tryz.prog 53 9 Tryz.f53 2 := okF _ (by kernel_rfl) (by kernel_rfl)
theorem c (k : Nat) : Contract Tryz.prog 53 (fs k) :=
  fnS [tQ, tQ] [tQ] ptL fns fgs0 fws0 (fun k (x : RX × RX) => ratio_Sub.f k x.1 x.2) ok trivial (fun k x => by kernel_rfl) (fun k => ⟨⟨ratio_Neg.c k, ratio_Add.c k, trivial⟩, trivial, trivial⟩) k
end ratio_Sub

namespace nat_Bit
def s5 : PSig := ⟨0, [], []⟩
def ptL : List (Pt (TD [.bool])) := [⟨5, s5, fun k (x : Unit) => nat_Bit.p5 k x⟩]
def fs (k : Nat) : FS := ⟨[tL, (.int .i64)], [.bool], fun (x : LX × Int) => nat_Bit.f k x.1 x.2⟩
theorem ok : FnO Tryz.prog 54 24 Tryz.f54 2 := okF _ (by kernel_rfl) (by kernel_rfl)
theorem c (k : Nat) : Contract Tryz.prog 54 (fs k) :=
  fnS [tL, (.int .i64)] [.bool] ptL fns0 fgs0 fws0 (fun k (x : LX × Int) => nat_Bit.f k x.1 x.2) ok ⟨⟨rfl, fun _ => rfl, fun k x => by kernel_rfl⟩, trivial⟩ (fun k x => by kernel_rfl) (fun _ => ⟨trivial, trivial, trivial⟩) k
end nat_Bit

namespace approx_shortest
def s0 : PSig := ⟨0, [(36, tQ, true), (36, tQ, true)], [(0, .val .flt), (2, .val (.int .i64)), (3, .val (.int .i64)), (11, .ptr 0 []), (14, .val .str), (15, .ptr 1 []), (16, .val .bool), (45, .val (.st (.pair tZ tZ))), (46, .val (.int .i64))]⟩
def s17 : PSig := ⟨0, [(36, tQ, true), (36, tQ, true), (34, tZ, true)], [(0, .val .flt), (2, .val (.int .i64)), (3, .val (.int .i64)), (11, .ptr 0 []), (14, .val .str), (15, .ptr 1 []), (16, .val .bool), (18, .ptr 2 []), (45, .val (.st (.pair tZ tZ))), (46, .val (.int .i64))]⟩
def s35 : PSig := ⟨0, [(36, tQ, true), (36, tQ, true)], [(0, .val .flt), (2, .val (.int .i64)), (3, .val (.int .i64)), (11, .ptr 0 []), (14, .val .str), (15, .ptr 1 []), (16, .val .bool), (45, .val (.st (.pair tZ tZ))), (46, .val (.int .i64))]⟩
def s33 : PSig := ⟨0, [(36, tQ, true), (36, tQ, true), (36, tQ, true)], [(0, .val .flt), (2, .val (.int .i64)), (3, .val (.int .i64)), (11, .ptr 0 []), (15, .ptr 1 []), (20, .val .str), (25, .ptr 2 []), (45, .val (.st (.pair tZ tZ))), (46, .val (.int .i64))]⟩
def ptL : List (Pt (TD [.str, .bool])) := [⟨0, s0, fun k (x : RX × RX × Nat × Int × Int × ByteArray × Bool × (ZX × ZX) × Int) => approx_shortest.p0 k x.1 x.2.1 x.2.2.1 x.2.2.2.1 x.2.2.2.2.1 x.2.2.2.2.2.1 x.2.2.2.2.2.2.1 x.2.2.2.2.2.2.2.1 x.2.2.2.2.2.2.2.2⟩, ⟨17, s17, fun k (x : RX × RX × ZX × Nat × Int × Int × ByteArray × Bool × (ZX × ZX) × Int) => approx_shortest.p17 k x.1 x.2.1 x.2.2.1 x.2.2.2.1 x.2.2.2.2.1 x.2.2.2.2.2.1 x.2.2.2.2.2.2.1 x.2.2.2.2.2.2.2.1 x.2.2.2.2.2.2.2.2.1 x.2.2.2.2.2.2.2.2.2⟩, ⟨35, s35, fun k (x : RX × RX × Nat × Int × Int × ByteArray × Bool × (ZX × ZX) × Int) => approx_shortest.p35 k x.1 x.2.1 x.2.2.1 x.2.2.2.1 x.2.2.2.2.1 x.2.2.2.2.2.1 x.2.2.2.2.2.2.1 x.2.2.2.2.2.2.2.1 x.2.2.2.2.2.2.2.2⟩, ⟨33, s33, fun k (x : RX × RX × RX × Nat × Int × Int × ByteArray × (ZX × ZX) × Int) => approx_shortest.p33 k x.1 x.2.1 x.2.2.1 x.2.2.2.1 x.2.2.2.2.1 x.2.2.2.2.2.1 x.2.2.2.2.2.2.1 x.2.2.2.2.2.2.2.1 x.2.2.2.2.2.2.2.2⟩]
def fns : Nat → List (FuncId × FS) := fun k => [(46, approx_ten.fs k), (48, ratio_Div.fs k), (49, ratio_Floor.fs k), (28, whole_Of.fs k), (50, whole_Add.fs k), (51, whole_Text.fs k), (52, approx_text.fs k), (6, approx_Read.fs k), (27, ratio_Of.fs k), (53, ratio_Sub.fs k), (32, ratio_Abs.fs k), (47, ratio_Cmp.fs k), (54, nat_Bit.fs k)]
def fs (k : Nat) : FS := ⟨[.flt, tQ, (.int .i64), (.int .i64)], [.str, .bool], fun (x : Nat × RX × Int × Int) => approx_shortest.f k x.1 x.2.1 x.2.2.1 x.2.2.2⟩
theorem ok : FnO Tryz.prog 23 101 Tryz.f23 4 := okF _ (by kernel_rfl) (by kernel_rfl)
theorem c (k : Nat) : Contract Tryz.prog 23 (fs k) :=
  fnS [.flt, tQ, (.int .i64), (.int .i64)] [.str, .bool] ptL fns fgs0 fws0 (fun k (x : Nat × RX × Int × Int) => approx_shortest.f k x.1 x.2.1 x.2.2.1 x.2.2.2) ok ⟨⟨rfl, fun _ => rfl, fun k x => by kernel_rfl⟩, ⟨rfl, fun _ => rfl, fun k x => by kernel_rfl⟩, ⟨rfl, fun _ => rfl, fun k x => by kernel_rfl⟩, ⟨rfl, fun _ => rfl, fun k x => by kernel_rfl⟩, trivial⟩ (fun k x => by kernel_rfl) (fun k => ⟨⟨approx_ten.c k, ratio_Div.c k, ratio_Floor.c k, whole_Of.c k, whole_Add.c k, whole_Text.c k, approx_text.c k, approx_Read.c k, ratio_Of.c k, ratio_Sub.c k, ratio_Abs.c k, ratio_Cmp.c k, nat_Bit.c k, trivial⟩, trivial, trivial⟩) k
end approx_shortest

namespace approx_Short
def s13 : PSig := ⟨0, [(36, tQ, true)], [(0, .val .flt), (4, .ptr 0 [])]⟩
def s2 : PSig := ⟨0, [(36, tQ, true)], [(0, .val .flt), (4, .ptr 0 []), (8, .val (.int .i64)), (9, .val (.int .i64))]⟩
def ptL : List (Pt (TD [.str, (.int .i64)])) := [⟨13, s13, fun k (x : RX × Nat) => approx_Short.p13 k x.1 x.2⟩, ⟨2, s2, fun k (x : RX × Nat × Int × Int) => approx_Short.p2 k x.1 x.2.1 x.2.2.1 x.2.2.2⟩]
def fns : Nat → List (FuncId × FS) := fun k => [(10, approx_Exact.fs k), (21, math_Signbit.fs k), (22, approx_power.fs k), (23, approx_shortest.fs k), (8, ⟨[.flt], [.str, (.int .i64)], fun (x : Nat) => approx_Short.f k x⟩)]
def fs (k : Nat) : FS := ⟨[.flt], [.str, (.int .i64)], fun (x : Nat) => approx_Short.f k x⟩
theorem ok : FnO Tryz.prog 8 56 Tryz.f8 1 := okF _ (by kernel_rfl) (by kernel_rfl)
theorem c (k : Nat) : Contract Tryz.prog 8 (fs k) := by
  induction k using Nat.strongRecOn with
  | _ k ih =>
    exact fn_sound_rec (ps := [.flt]) (rs := [.str, (.int .i64)]) (pts := ptL) (fns := fns) (fgs := fgs0) (fws := fws0) (tys := tyTab) (main := fun k (x : Nat) => approx_Short.f k x) ok mix tyOk ⟨⟨rfl, fun _ => rfl, fun k x => by kernel_rfl⟩, ⟨rfl, fun _ => rfl, fun k x => by kernel_rfl⟩, trivial⟩ (fun _ => rfl) (fun k x => by kernel_rfl) k (fun k hk => ⟨⟨approx_Exact.c k, math_Signbit.c k, approx_power.c k, approx_shortest.c k, ih k hk, trivial⟩, trivial, trivial⟩)
end approx_Short

namespace ref04_IsNaN
def ptL : List (Pt (TD [.bool])) := []
def fs (k : Nat) : FS := ⟨[(.int .u64)], [.bool], fun (x : Int) => ref04_IsNaN.f k x⟩
theorem ok : FnO Tryz.prog 19 6 Tryz.f19 1 := okF _ (by kernel_rfl) (by kernel_rfl)
theorem c (k : Nat) : Contract Tryz.prog 19 (fs k) :=
  fnS [(.int .u64)] [.bool] ptL fns0 fgs0 fws0 (fun k (x : Int) => ref04_IsNaN.f k x) ok trivial (fun k x => by kernel_rfl) (fun _ => ⟨trivial, trivial, trivial⟩) k
end ref04_IsNaN

namespace ref04_IsInf
def ptL : List (Pt (TD [.bool])) := []
def fs (k : Nat) : FS := ⟨[(.int .u64)], [.bool], fun (x : Int) => ref04_IsInf.f k x⟩
theorem ok : FnO Tryz.prog 20 6 Tryz.f20 1 := okF _ (by kernel_rfl) (by kernel_rfl)
theorem c (k : Nat) : Contract Tryz.prog 20 (fs k) :=
  fnS [(.int .u64)] [.bool] ptL fns0 fgs0 fws0 (fun k (x : Int) => ref04_IsInf.f k x) ok trivial (fun k x => by kernel_rfl) (fun _ => ⟨trivial, trivial, trivial⟩) k
end ref04_IsInf

namespace ref04_parts
def ptL : List (Pt (TD [(.int .u64), (.int .i64)])) := []
def fs (k : Nat) : FS := ⟨[(.int .u64)], [(.int .u64), (.int .i64)], fun (x : Int) => ref04_parts.f k x⟩
theorem ok : FnO Tryz.prog 36 18 Tryz.f36 1 := okF _ (by kernel_rfl) (by kernel_rfl)
theorem c (k : Nat) : Contract Tryz.prog 36 (fs k) :=
  fnS [(.int .u64)] [(.int .u64), (.int .i64)] ptL fns0 fgs0 fws0 (fun k (x : Int) => ref04_parts.f k x) ok trivial (fun k x => by kernel_rfl) (fun _ => ⟨trivial, trivial, trivial⟩) k
end ref04_parts

namespace ref01_Norm
def s0 : PSig := ⟨0, [], [(0, .val tL), (3, .val (.int .i64))]⟩
def s9 : PSig := ⟨0, [], [(0, .val tL), (3, .val (.int .i64))]⟩
def s4 : PSig := ⟨0, [(84, (.int .u32), false)], [(0, .val tL), (3, .val (.int .i64)), (4, .own 0), (5, .val (.int .i64))]⟩
def ptL : List (Pt (TD [tL])) := [⟨0, s0, fun k (x : LX × Int) => ref01_Norm.p0 k x.1 x.2⟩, ⟨9, s9, fun k (x : LX × Int) => ref01_Norm.p9 k x.1 x.2⟩, ⟨4, s4, fun k (x : LX × LX × Int × Int) => ref01_Norm.p4 k x.1 x.2.1 x.2.2.1 x.2.2.2⟩]
def fs (k : Nat) : FS := ⟨[tL], [tL], fun (x : LX) => ref01_Norm.f k x⟩
theorem ok : FnO Tryz.prog 107 35 Tryz.f107 1 := okF _ (by kernel_rfl) (by kernel_rfl)
theorem c (k : Nat) : Contract Tryz.prog 107 (fs k) :=
  fnS [tL] [tL] ptL fns0 fgs0 fws0 (fun k (x : LX) => ref01_Norm.f k x) ok ⟨⟨rfl, fun _ => rfl, fun k x => by kernel_rfl⟩, ⟨rfl, fun _ => rfl, fun k x => by kernel_rfl⟩, ⟨rfl, fun _ => rfl, fun k x => by kernel_rfl⟩, trivial⟩ (fun k x => by kernel_rfl) (fun _ => ⟨trivial, trivial, trivial⟩) k
end ref01_Norm

namespace ref01_Shift
def s5 : PSig := ⟨0, [], []⟩
def s17 : PSig := ⟨0, [], [(0, .val tL), (1, .val (.int .i64)), (6, .val (.int .i64))]⟩
def s29 : PSig := ⟨0, [(84, (.int .u32), false)], [(0, .val tL), (6, .val (.int .i64)), (7, .own 0), (8, .val (.int .i64)), (9, .val (.int .i64))]⟩
def s0 : PSig := ⟨0, [(84, (.int .u32), false)], [(0, .val tL), (6, .val (.int .i64)), (7, .own 0), (8, .val (.int .i64)), (9, .val (.int .i64)), (10, .val (.int .i64))]⟩
def s41 : PSig := ⟨0, [(84, (.int .u32), false)], [(0, .val tL), (6, .val (.int .i64)), (7, .own 0), (8, .val (.int .i64)), (9, .val (.int .i64)), (10, .val (.int .i64)), (11, .val (.int .u64))]⟩
def s33 : PSig := ⟨0, [(84, (.int .u32), false)], [(0, .val tL), (6, .val (.int .i64)), (7, .own 0), (8, .val (.int .i64)), (9, .val (.int .i64)), (10, .val (.int .i64))]⟩
def ptL : List (Pt (TD [tL, (.int .i64)])) := [⟨5, s5, fun k (x : Unit) => ref01_Shift.p5 k x⟩, ⟨17, s17, fun k (x : LX × Int × Int) => ref01_Shift.p17 k x.1 x.2.1 x.2.2⟩, ⟨29, s29, fun k (x : LX × LX × Int × Int × Int) => ref01_Shift.p29 k x.1 x.2.1 x.2.2.1 x.2.2.2.1 x.2.2.2.2⟩, ⟨0, s0, fun k (x : LX × LX × Int × Int × Int × Int) => ref01_Shift.p0 k x.1 x.2.1 x.2.2.1 x.2.2.2.1 x.2.2.2.2.1 x.2.2.2.2.2⟩, ⟨41, s41, fun k (x : LX × LX × Int × Int × Int × Int × Int) => ref01_Shift.p41 k x.1 x.2.1 x.2.2.1 x.2.2.2.1 x.2.2.2.2.1 x.2.2.2.2.2.1 x.2.2.2.2.2.2⟩, ⟨33, s33, fun k (x : LX × LX × Int × Int × Int × Int) => ref01_Shift.p33 k x.1 x.2.1 x.2.2.1 x.2.2.2.1 x.2.2.2.2.1 x.2.2.2.2.2⟩]
def fns : Nat → List (FuncId × FS) := fun k => [(107, ref01_Norm.fs k)]
def fs (k : Nat) : FS := ⟨[tL, (.int .i64)], [tL, (.int .i64)], fun (x : LX × Int) => ref01_Shift.f k x.1 x.2⟩
theorem ok : FnO Tryz.prog 106 106 Tryz.f106 2 := okF _ (by kernel_rfl) (by kernel_rfl)
theorem c (k : Nat) : Contract Tryz.prog 106 (fs k) :=
  fnS [tL, (.int .i64)] [tL, (.int .i64)] ptL fns fgs0 fws0 (fun k (x : LX × Int) => ref01_Shift.f k x.1 x.2) ok ⟨⟨rfl, fun _ => rfl, fun k x => by kernel_rfl⟩, ⟨rfl, fun _ => rfl, fun k x => by kernel_rfl⟩, ⟨rfl, fun _ => rfl, fun k x => by kernel_rfl⟩, ⟨rfl, fun _ => rfl, fun k x => by kernel_rfl⟩, ⟨rfl, fun _ => rfl, fun k x => by kernel_rfl⟩, ⟨rfl, fun _ => rfl, fun k x => by kernel_rfl⟩, trivial⟩ (fun k x => by kernel_rfl) (fun k => ⟨⟨ref01_Norm.c k, trivial⟩, trivial, trivial⟩) k
end ref01_Shift

namespace ref04_power
def ptL : List (Pt (TD [tQ])) := []
def fns : Nat → List (FuncId × FS) := fun k => [(106, ref01_Shift.fs k)]
def fs (k : Nat) : FS := ⟨[(.int .i64)], [tQ], fun (x : Int) => ref04_power.f k x⟩
theorem ok : FnO Tryz.prog 73 30 Tryz.f73 1 := okF _ (by kernel_rfl) (by kernel_rfl)
theorem c (k : Nat) : Contract Tryz.prog 73 (fs k) :=
  fnS [(.int .i64)] [tQ] ptL fns fgs0 fws0 (fun k (x : Int) => ref04_power.f k x) ok trivial (fun k x => by kernel_rfl) (fun k => ⟨⟨ref01_Shift.c k, trivial⟩, trivial, trivial⟩) k
end ref04_power

namespace ref01_Of
def ptL : List (Pt (TD [tL])) := []
def fns : Nat → List (FuncId × FS) := fun k => [(107, ref01_Norm.fs k)]
def fs (k : Nat) : FS := ⟨[(.int .u64)], [tL], fun (x : Int) => ref01_Of.f k x⟩
theorem ok : FnO Tryz.prog 75 10 Tryz.f75 1 := okF _ (by kernel_rfl) (by kernel_rfl)
theorem c (k : Nat) : Contract Tryz.prog 75 (fs k) :=
  fnS [(.int .u64)] [tL] ptL fns fgs0 fws0 (fun k (x : Int) => ref01_Of.f k x) ok trivial (fun k x => by kernel_rfl) (fun k => ⟨⟨ref01_Norm.c k, trivial⟩, trivial, trivial⟩) k
end ref01_Of

namespace ref01_Mul
def s0 : PSig := ⟨0, [(84, (.int .u32), false)], [(0, .val tL), (1, .val tL), (5, .own 0), (6, .val (.int .i64))]⟩
def s4 : PSig := ⟨0, [(84, (.int .u32), false)], [(0, .val tL), (1, .val tL), (5, .own 0), (6, .val (.int .i64)), (7, .val (.int .u64)), (8, .val (.int .i64))]⟩
def ptL : List (Pt (TD [tL])) := [⟨0, s0, fun k (x : LX × LX × LX × Int) => ref01_Mul.p0 k x.1 x.2.1 x.2.2.1 x.2.2.2⟩, ⟨4, s4, fun k (x : LX × LX × LX × Int × Int × Int) => ref01_Mul.p4 k x.1 x.2.1 x.2.2.1 x.2.2.2.1 x.2.2.2.2.1 x.2.2.2.2.2⟩]
def fns : Nat → List (FuncId × FS) := fun k => [(107, ref01_Norm.fs k)]
def fs (k : Nat) : FS := ⟨[tL, tL], [tL], fun (x : LX × LX) => ref01_Mul.f k x.1 x.2⟩
theorem ok : FnO Tryz.prog 74 68 Tryz.f74 2 := okF _ (by kernel_rfl) (by kernel_rfl)
theorem c (k : Nat) : Contract Tryz.prog 74 (fs k) :=
  fnS [tL, tL] [tL] ptL fns fgs0 fws0 (fun k (x : LX × LX) => ref01_Mul.f k x.1 x.2) ok ⟨⟨rfl, fun _ => rfl, fun k x => by kernel_rfl⟩, ⟨rfl, fun _ => rfl, fun k x => by kernel_rfl⟩, trivial⟩ (fun k x => by kernel_rfl) (fun k => ⟨⟨ref01_Norm.c k, trivial⟩, trivial, trivial⟩) k
end ref01_Mul

namespace ref04_scaled
def ptL : List (Pt (TD [tQ])) := []
def fns : Nat → List (FuncId × FS) := fun k => [(73, ref04_power.fs k), (75, ref01_Of.fs k), (74, ref01_Mul.fs k)]
def fs (k : Nat) : FS := ⟨[(.int .u64), (.int .i64)], [tQ], fun (x : Int × Int) => ref04_scaled.f k x.1 x.2⟩
theorem ok : FnO Tryz.prog 37 18 Tryz.f37 2 := okF _ (by kernel_rfl) (by kernel_rfl)
theorem c (k : Nat) : Contract Tryz.prog 37 (fs k) :=
  fnS [(.int .u64), (.int .i64)] [tQ] ptL fns fgs0 fws0 (fun k (x : Int × Int) => ref04_scaled.f k x.1 x.2) ok trivial (fun k x => by kernel_rfl) (fun k => ⟨⟨ref04_power.c k, ref01_Of.c k, ref01_Mul.c k, trivial⟩, trivial, trivial⟩) k
end ref04_scaled

namespace ref01_Bit
def ptL : List (Pt (TD [.bool])) := []
def fs (k : Nat) : FS := ⟨[tL, (.int .i64)], [.bool], fun (x : LX × Int) => ref01_Bit.f k x.1 x.2⟩
theorem ok : FnO Tryz.prog 76 27 Tryz.f76 2 := okF _ (by kernel_rfl) (by kernel_rfl)
theorem c (k : Nat) : Contract Tryz.prog 76 (fs k) :=
  fnS [tL, (.int .i64)] [.bool] ptL fns0 fgs0 fws0 (fun k (x : LX × Int) => ref01_Bit.f k x.1 x.2) ok trivial (fun k x => by kernel_rfl) (fun _ => ⟨trivial, trivial, trivial⟩) k
end ref01_Bit

namespace ref01_Bits
def s0 : PSig := ⟨0, [], [(0, .val tL), (3, .val (.int .i64))]⟩
def ptL : List (Pt (TD [(.int .i64)])) := [⟨0, s0, fun k (x : LX × Int) => ref01_Bits.p0 k x.1 x.2⟩]
def fns : Nat → List (FuncId × FS) := fun k => [(76, ref01_Bit.fs k)]
def fs (k : Nat) : FS := ⟨[tL], [(.int .i64)], fun (x : LX) => ref01_Bits.f k x⟩
theorem ok : FnO Tryz.prog 38 17 Tryz.f38 1 := okF _ (by kernel_rfl) (by kernel_rfl)
theorem c (k : Nat) : Contract Tryz.prog 38 (fs k) :=
  fnS [tL] [(.int .i64)] ptL fns fgs0 fws0 (fun k (x : LX) => ref01_Bits.f k x) ok ⟨⟨rfl, fun _ => rfl, fun k x => by kernel_rfl⟩, trivial⟩ (fun k x => by kernel_rfl) (fun k => ⟨⟨ref01_Bit.c k, trivial⟩, trivial, trivial⟩) k
end ref01_Bits

namespace ref01_Pow
def s5 : PSig := ⟨0, [], []⟩
def s0 : PSig := ⟨0, [], [(0, .val tL), (1, .val (.int .i64)), (6, .val tL), (7, .val (.int .i64))]⟩
def s13 : PSig := ⟨0, [], [(0, .val tL), (1, .val (.int .i64)), (6, .val tL), (7, .val (.int .i64))]⟩
def ptL : List (Pt (TD [tL, (.int .i64)])) := [⟨5, s5, fun k (x : Unit) => ref01_Pow.p5 k x⟩, ⟨0, s0, fun k (x : LX × Int × LX × Int) => ref01_Pow.p0 k x.1 x.2.1 x.2.2.1 x.2.2.2⟩, ⟨13, s13, fun k (x : LX × Int × LX × Int) => ref01_Pow.p13 k x.1 x.2.1 x.2.2.1 x.2.2.2⟩]
def fns : Nat → List (FuncId × FS) := fun k => [(74, ref01_Mul.fs k), (107, ref01_Norm.fs k)]
def fs (k : Nat) : FS := ⟨[tL, (.int .i64)], [tL, (.int .i64)], fun (x : LX × Int) => ref01_Pow.f k x.1 x.2⟩
theorem ok : FnO Tryz.prog 132 33 Tryz.f132 2 := okF _ (by kernel_rfl) (by kernel_rfl)
theorem c (k : Nat) : Contract Tryz.prog 132 (fs k) :=
  fnS [tL, (.int .i64)] [tL, (.int .i64)] ptL fns fgs0 fws0 (fun k (x : LX × Int) => ref01_Pow.f k x.1 x.2) ok ⟨⟨rfl, fun _ => rfl, fun k x => by kernel_rfl⟩, ⟨rfl, fun _ => rfl, fun k x => by kernel_rfl⟩, ⟨rfl, fun _ => rfl, fun k x => by kernel_rfl⟩, trivial⟩ (fun k x => by kernel_rfl) (fun k => ⟨⟨ref01_Mul.c k, ref01_Norm.c k, trivial⟩, trivial, trivial⟩) k
end ref01_Pow

namespace ref04_ten
def s0 : PSig := ⟨0, [], [(0, .val (.int .i64)), (3, .val tL)]⟩
def s13 : PSig := ⟨0, [], [(0, .val (.int .i64)), (3, .val tL), (4, .val (.int .i64))]⟩
def ptL : List (Pt (TD [tL])) := [⟨0, s0, fun k (x : Int × LX) => ref04_ten.p0 k x.1 x.2⟩, ⟨13, s13, fun k (x : Int × LX × Int) => ref04_ten.p13 k x.1 x.2.1 x.2.2⟩]
def fns : Nat → List (FuncId × FS) := fun k => [(132, ref01_Pow.fs k), (74, ref01_Mul.fs k)]
def fs (k : Nat) : FS := ⟨[(.int .i64)], [tL], fun (x : Int) => ref04_ten.f k x⟩
theorem ok : FnO Tryz.prog 108 26 Tryz.f108 1 := okF _ (by kernel_rfl) (by kernel_rfl)
theorem c (k : Nat) : Contract Tryz.prog 108 (fs k) :=
  fnS [(.int .i64)] [tL] ptL fns fgs0 fws0 (fun k (x : Int) => ref04_ten.f k x) ok ⟨⟨rfl, fun _ => rfl, fun k x => by kernel_rfl⟩, ⟨rfl, fun _ => rfl, fun k x => by kernel_rfl⟩, trivial⟩ (fun k x => by kernel_rfl) (fun k => ⟨⟨ref01_Pow.c k, ref01_Mul.c k, trivial⟩, trivial, trivial⟩) k
end ref04_ten

namespace ref04_tens
def ptL : List (Pt (TD [tQ])) := []
def fns : Nat → List (FuncId × FS) := fun k => [(108, ref04_ten.fs k)]
def fs (k : Nat) : FS := ⟨[(.int .i64)], [tQ], fun (x : Int) => ref04_tens.f k x⟩
theorem ok : FnO Tryz.prog 77 16 Tryz.f77 1 := okF _ (by kernel_rfl) (by kernel_rfl)
theorem c (k : Nat) : Contract Tryz.prog 77 (fs k) :=
  fnS [(.int .i64)] [tQ] ptL fns fgs0 fws0 (fun k (x : Int) => ref04_tens.f k x) ok trivial (fun k x => by kernel_rfl) (fun k => ⟨⟨ref04_ten.c k, trivial⟩, trivial, trivial⟩) k
end ref04_tens

namespace ref01_at
def ptL : List (Pt (TD [(.int .u64)])) := []
def fs (k : Nat) : FS := ⟨[tL, (.int .i64)], [(.int .u64)], fun (x : LX × Int) => ref01_at.f k x.1 x.2⟩
theorem ok : FnO Tryz.prog 109 14 Tryz.f109 2 := okF _ (by kernel_rfl) (by kernel_rfl)
theorem c (k : Nat) : Contract Tryz.prog 109 (fs k) :=
  fnS [tL, (.int .i64)] [(.int .u64)] ptL fns0 fgs0 fws0 (fun k (x : LX × Int) => ref01_at.f k x.1 x.2) ok trivial (fun k x => by kernel_rfl) (fun _ => ⟨trivial, trivial, trivial⟩) k
end ref01_at

namespace ref01_Cmp
def s9 : PSig := ⟨0, [], [(0, .val tL), (1, .val tL), (5, .val (.int .i64))]⟩
def s0 : PSig := ⟨0, [], [(0, .val tL), (1, .val tL), (6, .val (.int .i64))]⟩
def ptL : List (Pt (TD [(.int .i64)])) := [⟨9, s9, fun k (x : LX × LX × Int) => ref01_Cmp.p9 k x.1 x.2.1 x.2.2⟩, ⟨0, s0, fun k (x : LX × LX × Int) => ref01_Cmp.p0 k x.1 x.2.1 x.2.2⟩]
def fns : Nat → List (FuncId × FS) := fun k => [(109, ref01_at.fs k)]
def fs (k : Nat) : FS := ⟨[tL, tL], [(.int .i64)], fun (x : LX × LX) => ref01_Cmp.f k x.1 x.2⟩
theorem ok : FnO Tryz.prog 78 35 Tryz.f78 2 := okF _ (by kernel_rfl) (by kernel_rfl)
theorem c (k : Nat) : Contract Tryz.prog 78 (fs k) :=
  fnS [tL, tL] [(.int .i64)] ptL fns fgs0 fws0 (fun k (x : LX × LX) => ref01_Cmp.f k x.1 x.2) ok ⟨⟨rfl, fun _ => rfl, fun k x => by kernel_rfl⟩, ⟨rfl, fun _ => rfl, fun k x => by kernel_rfl⟩, trivial⟩ (fun k x => by kernel_rfl) (fun k => ⟨⟨ref01_at.c k, trivial⟩, trivial, trivial⟩) k
end ref01_Cmp

namespace ref04_lessTens
def ptL : List (Pt (TD [.bool])) := []
def fns : Nat → List (FuncId × FS) := fun k => [(77, ref04_tens.fs k), (74, ref01_Mul.fs k), (78, ref01_Cmp.fs k)]
def fs (k : Nat) : FS := ⟨[(.int .i64), tQ], [.bool], fun (x : Int × RX) => ref04_lessTens.f k x.1 x.2⟩
theorem ok : FnO Tryz.prog 39 22 Tryz.f39 2 := okF _ (by kernel_rfl) (by kernel_rfl)
theorem c (k : Nat) : Contract Tryz.prog 39 (fs k) :=
  fnS [(.int .i64), tQ] [.bool] ptL fns fgs0 fws0 (fun k (x : Int × RX) => ref04_lessTens.f k x.1 x.2) ok trivial (fun k x => by kernel_rfl) (fun k => ⟨⟨ref04_tens.c k, ref01_Mul.c k, ref01_Cmp.c k, trivial⟩, trivial, trivial⟩) k
end ref04_lessTens

namespace ref01_twice
def s11 : PSig := ⟨0, [(84, (.int .u32), false)], [(0, .val tL), (5, .own 0), (6, .val (.int .u32))]⟩
def s0 : PSig := ⟨0, [(84, (.int .u32), false)], [(0, .val tL), (5, .own 0), (6, .val (.int .u32)), (7, .val (.int .i64))]⟩
def ptL : List (Pt (TD [tL])) := [⟨11, s11, fun k (x : LX × LX × Int) => ref01_twice.p11 k x.1 x.2.1 x.2.2⟩, ⟨0, s0, fun k (x : LX × LX × Int × Int) => ref01_twice.p0 k x.1 x.2.1 x.2.2.1 x.2.2.2⟩]
def fns : Nat → List (FuncId × FS) := fun k => [(107, ref01_Norm.fs k)]
def fs (k : Nat) : FS := ⟨[tL, .bool], [tL], fun (x : LX × Bool) => ref01_twice.f k x.1 x.2⟩
theorem ok : FnO Tryz.prog 110 41 Tryz.f110 2 := okF _ (by kernel_rfl) (by kernel_rfl)
theorem c (k : Nat) : Contract Tryz.prog 110 (fs k) :=
  fnS [tL, .bool] [tL] ptL fns fgs0 fws0 (fun k (x : LX × Bool) => ref01_twice.f k x.1 x.2) ok ⟨⟨rfl, fun _ => rfl, fun k x => by kernel_rfl⟩, ⟨rfl, fun _ => rfl, fun k x => by kernel_rfl⟩, trivial⟩ (fun k x => by kernel_rfl) (fun k => ⟨⟨ref01_Norm.c k, trivial⟩, trivial, trivial⟩) k
end ref01_twice

namespace ref01_Sub
def s0 : PSig := ⟨0, [(84, (.int .u32), false)], [(0, .val tL), (1, .val tL), (6, .own 0), (7, .val (.int .u64)), (8, .val (.int .i64))]⟩
def ptL : List (Pt (TD [tL, (.int .i64)])) := [⟨0, s0, fun k (x : LX × LX × LX × Int × Int) => ref01_Sub.p0 k x.1 x.2.1 x.2.2.1 x.2.2.2.1 x.2.2.2.2⟩]
def fns : Nat → List (FuncId × FS) := fun k => [(78, ref01_Cmp.fs k), (109, ref01_at.fs k), (107, ref01_Norm.fs k)]
def fs (k : Nat) : FS := ⟨[tL, tL], [tL, (.int .i64)], fun (x : LX × LX) => ref01_Sub.f k x.1 x.2⟩
theorem ok : FnO Tryz.prog 111 41 Tryz.f111 2 := okF _ (by kernel_rfl) (by kernel_rfl)
theorem c (k : Nat) : Contract Tryz.prog 111 (fs k) :=
  fnS [tL, tL] [tL, (.int .i64)] ptL fns fgs0 fws0 (fun k (x : LX × LX) => ref01_Sub.f k x.1 x.2) ok ⟨⟨rfl, fun _ => rfl, fun k x => by kernel_rfl⟩, trivial⟩ (fun k x => by kernel_rfl) (fun k => ⟨⟨ref01_Cmp.c k, ref01_at.c k, ref01_Norm.c k, trivial⟩, trivial, trivial⟩) k
end ref01_Sub

namespace ref01_Div
def s19 : PSig := ⟨0, [(84, (.int .u32), false)], [(0, .val tL), (1, .val tL), (7, .own 0), (8, .val (.int .i64))]⟩
def s0 : PSig := ⟨0, [(84, (.int .u32), false)], [(0, .val tL), (1, .val tL), (7, .own 0), (9, .val tL), (10, .val (.int .i64))]⟩
def s25 : PSig := ⟨0, [(84, (.int .u32), false)], [(0, .val tL), (1, .val tL), (7, .own 0), (9, .val tL), (10, .val (.int .i64))]⟩
def ptL : List (Pt (TD [tL, tL, (.int .i64)])) := [⟨19, s19, fun k (x : LX × LX × LX × Int) => ref01_Div.p19 k x.1 x.2.1 x.2.2.1 x.2.2.2⟩, ⟨0, s0, fun k (x : LX × LX × LX × LX × Int) => ref01_Div.p0 k x.1 x.2.1 x.2.2.1 x.2.2.2.1 x.2.2.2.2⟩, ⟨25, s25, fun k (x : LX × LX × LX × LX × Int) => ref01_Div.p25 k x.1 x.2.1 x.2.2.1 x.2.2.2.1 x.2.2.2.2⟩]
def fns : Nat → List (FuncId × FS) := fun k => [(107, ref01_Norm.fs k), (76, ref01_Bit.fs k), (110, ref01_twice.fs k), (78, ref01_Cmp.fs k), (111, ref01_Sub.fs k)]
def fs (k : Nat) : FS := ⟨[tL, tL], [tL, tL, (.int .i64)], fun (x : LX × LX) => ref01_Div.f k x.1 x.2⟩
theorem ok : FnO Tryz.prog 79 76 Tryz.f79 2 := okF _ (by kernel_rfl) (by kernel_rfl)
theorem c (k : Nat) : Contract Tryz.prog 79 (fs k) :=
  fnS [tL, tL] [tL, tL, (.int .i64)] ptL fns fgs0 fws0 (fun k (x : LX × LX) => ref01_Div.f k x.1 x.2) ok ⟨⟨rfl, fun _ => rfl, fun k x => by kernel_rfl⟩, ⟨rfl, fun _ => rfl, fun k x => by kernel_rfl⟩, ⟨rfl, fun _ => rfl, fun k x => by kernel_rfl⟩, trivial⟩ (fun k x => by kernel_rfl) (fun k => ⟨⟨ref01_Norm.c k, ref01_Bit.c k, ref01_twice.c k, ref01_Cmp.c k, ref01_Sub.c k, trivial⟩, trivial, trivial⟩) k
end ref01_Div

namespace ref01_Add
def s9 : PSig := ⟨0, [], [(0, .val tL), (1, .val tL), (5, .val (.int .i64))]⟩
def s0 : PSig := ⟨0, [(84, (.int .u32), false)], [(0, .val tL), (1, .val tL), (5, .val (.int .i64)), (6, .own 0), (7, .val (.int .u64)), (8, .val (.int .i64))]⟩
def ptL : List (Pt (TD [tL])) := [⟨9, s9, fun k (x : LX × LX × Int) => ref01_Add.p9 k x.1 x.2.1 x.2.2⟩, ⟨0, s0, fun k (x : LX × LX × LX × Int × Int × Int) => ref01_Add.p0 k x.1 x.2.1 x.2.2.1 x.2.2.2.1 x.2.2.2.2.1 x.2.2.2.2.2⟩]
def fns : Nat → List (FuncId × FS) := fun k => [(109, ref01_at.fs k), (107, ref01_Norm.fs k)]
def fs (k : Nat) : FS := ⟨[tL, tL], [tL], fun (x : LX × LX) => ref01_Add.f k x.1 x.2⟩
theorem ok : FnO Tryz.prog 80 44 Tryz.f80 2 := okF _ (by kernel_rfl) (by kernel_rfl)
theorem c (k : Nat) : Contract Tryz.prog 80 (fs k) :=
  fnS [tL, tL] [tL] ptL fns fgs0 fws0 (fun k (x : LX × LX) => ref01_Add.f k x.1 x.2) ok ⟨⟨rfl, fun _ => rfl, fun k x => by kernel_rfl⟩, ⟨rfl, fun _ => rfl, fun k x => by kernel_rfl⟩, trivial⟩ (fun k x => by kernel_rfl) (fun k => ⟨⟨ref01_at.c k, ref01_Norm.c k, trivial⟩, trivial, trivial⟩) k
end ref01_Add

namespace ref04_timesTen
def ptL : List (Pt (TD [tQ])) := []
def fns : Nat → List (FuncId × FS) := fun k => [(77, ref04_tens.fs k), (74, ref01_Mul.fs k)]
def fs (k : Nat) : FS := ⟨[tL, (.int .i64)], [tQ], fun (x : LX × Int) => ref04_timesTen.f k x.1 x.2⟩
theorem ok : FnO Tryz.prog 82 17 Tryz.f82 2 := okF _ (by kernel_rfl) (by kernel_rfl)
theorem c (k : Nat) : Contract Tryz.prog 82 (fs k) :=
  fnS [tL, (.int .i64)] [tQ] ptL fns fgs0 fws0 (fun k (x : LX × Int) => ref04_timesTen.f k x.1 x.2) ok trivial (fun k x => by kernel_rfl) (fun k => ⟨⟨ref04_tens.c k, ref01_Mul.c k, trivial⟩, trivial, trivial⟩) k
end ref04_timesTen

namespace ref04_amount
def s9 : PSig := ⟨0, [(36, tQ, true), (36, tQ, true)], [(2, .ptr 0 []), (4, .ptr 1 [])]⟩
def ptL : List (Pt (TD [tQ, (.int .u64)])) := [⟨9, s9, fun k (x : RX × RX) => ref04_amount.p9 k x.1 x.2⟩]
def fns : Nat → List (FuncId × FS) := fun k => [(38, ref01_Bits.fs k)]
def fs (k : Nat) : FS := ⟨[tQ], [tQ, (.int .u64)], fun (x : RX) => ref04_amount.f k x⟩
theorem ok : FnO Tryz.prog 112 30 Tryz.f112 1 := okF _ (by kernel_rfl) (by kernel_rfl)
theorem c (k : Nat) : Contract Tryz.prog 112 (fs k) :=
  fnS [tQ] [tQ, (.int .u64)] ptL fns fgs0 fws0 (fun k (x : RX) => ref04_amount.f k x) ok ⟨⟨rfl, fun _ => rfl, fun k x => by kernel_rfl⟩, trivial⟩ (fun k x => by kernel_rfl) (fun k => ⟨⟨ref01_Bits.c k, trivial⟩, trivial, trivial⟩) k
end ref04_amount

namespace ref04_against
def s13 : PSig := ⟨0, [], [(7, .val tL), (8, .val tL)]⟩
def ptL : List (Pt (TD [(.int .i64)])) := [⟨13, s13, fun k (x : LX × LX) => ref04_against.p13 k x.1 x.2⟩]
def fns : Nat → List (FuncId × FS) := fun k => [(74, ref01_Mul.fs k), (106, ref01_Shift.fs k), (78, ref01_Cmp.fs k)]
def fs (k : Nat) : FS := ⟨[tQ, tL, (.int .i64)], [(.int .i64)], fun (x : RX × LX × Int) => ref04_against.f k x.1 x.2.1 x.2.2⟩
theorem ok : FnO Tryz.prog 113 34 Tryz.f113 3 := okF _ (by kernel_rfl) (by kernel_rfl)
theorem c (k : Nat) : Contract Tryz.prog 113 (fs k) :=
  fnS [tQ, tL, (.int .i64)] [(.int .i64)] ptL fns fgs0 fws0 (fun k (x : RX × LX × Int) => ref04_against.f k x.1 x.2.1 x.2.2) ok ⟨⟨rfl, fun _ => rfl, fun k x => by kernel_rfl⟩, trivial⟩ (fun k x => by kernel_rfl) (fun k => ⟨⟨ref01_Mul.c k, ref01_Shift.c k, ref01_Cmp.c k, trivial⟩, trivial, trivial⟩) k
end ref04_against

namespace ref04_quotient
def s13 : PSig := ⟨0, [], [(6, .val tL), (7, .val tL)]⟩
def ptL : List (Pt (TD [tL, .bool])) := [⟨13, s13, fun k (x : LX × LX) => ref04_quotient.p13 k x.1 x.2⟩]
def fns : Nat → List (FuncId × FS) := fun k => [(106, ref01_Shift.fs k), (79, ref01_Div.fs k), (38, ref01_Bits.fs k)]
def fs (k : Nat) : FS := ⟨[tQ, (.int .i64)], [tL, .bool], fun (x : RX × Int) => ref04_quotient.f k x.1 x.2⟩
theorem ok : FnO Tryz.prog 133 42 Tryz.f133 2 := okF _ (by kernel_rfl) (by kernel_rfl)
theorem c (k : Nat) : Contract Tryz.prog 133 (fs k) :=
  fnS [tQ, (.int .i64)] [tL, .bool] ptL fns fgs0 fws0 (fun k (x : RX × Int) => ref04_quotient.f k x.1 x.2) ok ⟨⟨rfl, fun _ => rfl, fun k x => by kernel_rfl⟩, trivial⟩ (fun k x => by kernel_rfl) (fun k => ⟨⟨ref01_Shift.c k, ref01_Div.c k, ref01_Bits.c k, trivial⟩, trivial, trivial⟩) k
end ref04_quotient

namespace ref01_Small
def s0 : PSig := ⟨0, [], [(0, .val tL), (4, .val (.int .u64)), (5, .val (.int .i64))]⟩
def ptL : List (Pt (TD [(.int .u64), .bool])) := [⟨0, s0, fun k (x : LX × Int × Int) => ref01_Small.p0 k x.1 x.2.1 x.2.2⟩]
def fns : Nat → List (FuncId × FS) := fun k => [(107, ref01_Norm.fs k)]
def fs (k : Nat) : FS := ⟨[tL], [(.int .u64), .bool], fun (x : LX) => ref01_Small.f k x⟩
theorem ok : FnO Tryz.prog 134 27 Tryz.f134 1 := okF _ (by kernel_rfl) (by kernel_rfl)
theorem c (k : Nat) : Contract Tryz.prog 134 (fs k) :=
  fnS [tL] [(.int .u64), .bool] ptL fns fgs0 fws0 (fun k (x : LX) => ref01_Small.f k x) ok ⟨⟨rfl, fun _ => rfl, fun k x => by kernel_rfl⟩, trivial⟩ (fun k x => by kernel_rfl) (fun k => ⟨⟨ref01_Norm.c k, trivial⟩, trivial, trivial⟩) k
end ref01_Small

namespace ref04_below
def s5 : PSig := ⟨0, [], []⟩
def s23 : PSig := ⟨0, [(36, tQ, true)], [(1, .ptr 0 []), (5, .val (.int .i64))]⟩
def s0 : PSig := ⟨0, [(36, tQ, true)], [(1, .ptr 0 []), (5, .val (.int .i64)), (6, .val tL), (7, .val .bool)]⟩
def ptL : List (Pt (TD [(.int .u64), .bool])) := [⟨5, s5, fun k (x : Unit) => ref04_below.p5 k x⟩, ⟨23, s23, fun k (x : RX × Int) => ref04_below.p23 k x.1 x.2⟩, ⟨0, s0, fun k (x : RX × Int × LX × Bool) => ref04_below.p0 k x.1 x.2.1 x.2.2.1 x.2.2.2⟩]
def fns : Nat → List (FuncId × FS) := fun k => [(38, ref01_Bits.fs k), (133, ref04_quotient.fs k), (134, ref01_Small.fs k)]
def fs (k : Nat) : FS := ⟨[tQ], [(.int .u64), .bool], fun (x : RX) => ref04_below.f k x⟩
theorem ok : FnO Tryz.prog 114 73 Tryz.f114 1 := okF _ (by kernel_rfl) (by kernel_rfl)
theorem c (k : Nat) : Contract Tryz.prog 114 (fs k) :=
  fnS [tQ] [(.int .u64), .bool] ptL fns fgs0 fws0 (fun k (x : RX) => ref04_below.f k x) ok ⟨⟨rfl, fun _ => rfl, fun k x => by kernel_rfl⟩, ⟨rfl, fun _ => rfl, fun k x => by kernel_rfl⟩, ⟨rfl, fun _ => rfl, fun k x => by kernel_rfl⟩, trivial⟩ (fun k x => by kernel_rfl) (fun k => ⟨⟨ref01_Bits.c k, ref04_quotient.c k, ref01_Small.c k, trivial⟩, trivial, trivial⟩) k
end ref04_below

namespace ref04_NearestBits
def s17 : PSig := ⟨0, [], [(4, .val (.int .u64)), (5, .val (.int .u64))]⟩
def s27 : PSig := ⟨0, [], [(4, .val (.int .u64)), (5, .val (.int .u64))]⟩
def s29 : PSig := ⟨0, [], [(4, .val (.int .u64)), (5, .val (.int .u64))]⟩
def ptL : List (Pt (TD [(.int .u64)])) := [⟨17, s17, fun k (x : Int × Int) => ref04_NearestBits.p17 k x.1 x.2⟩, ⟨27, s27, fun k (x : Int × Int) => ref04_NearestBits.p27 k x.1 x.2⟩, ⟨29, s29, fun k (x : Int × Int) => ref04_NearestBits.p29 k x.1 x.2⟩]
def fns : Nat → List (FuncId × FS) := fun k => [(112, ref04_amount.fs k), (38, ref01_Bits.fs k), (75, ref01_Of.fs k), (113, ref04_against.fs k), (114, ref04_below.fs k), (36, ref04_parts.fs k)]
def fs (k : Nat) : FS := ⟨[tQ], [(.int .u64)], fun (x : RX) => ref04_NearestBits.f k x⟩
theorem ok : FnO Tryz.prog 81 80 Tryz.f81 1 := okF _ (by kernel_rfl) (by kernel_rfl)
theorem c (k : Nat) : Contract Tryz.prog 81 (fs k) :=
  fnS [tQ] [(.int .u64)] ptL fns fgs0 fws0 (fun k (x : RX) => ref04_NearestBits.f k x) ok ⟨⟨rfl, fun _ => rfl, fun k x => by kernel_rfl⟩, ⟨rfl, fun _ => rfl, fun k x => by kernel_rfl⟩, ⟨rfl, fun _ => rfl, fun k x => by kernel_rfl⟩, trivial⟩ (fun k x => by kernel_rfl) (fun k => ⟨⟨ref04_amount.c k, ref01_Bits.c k, ref01_Of.c k, ref04_against.c k, ref04_below.c k, ref04_parts.c k, trivial⟩, trivial, trivial⟩) k
end ref04_NearestBits

namespace ref04_shortest
def s15 : PSig := ⟨0, [], [(9, .val tL), (12, .val tL), (13, .val .bool), (14, .val .bool)]⟩
def s29 : PSig := ⟨0, [], [(9, .val tL)]⟩
def s31 : PSig := ⟨0, [], [(12, .val tL)]⟩
def ptL : List (Pt (TD [tL, .bool])) := [⟨15, s15, fun k (x : LX × LX × Bool × Bool) => ref04_shortest.p15 k x.1 x.2.1 x.2.2.1 x.2.2.2⟩, ⟨29, s29, fun k (x : LX) => ref04_shortest.p29 k x⟩, ⟨31, s31, fun k (x : LX) => ref04_shortest.p31 k x⟩]
def fns : Nat → List (FuncId × FS) := fun k => [(77, ref04_tens.fs k), (74, ref01_Mul.fs k), (79, ref01_Div.fs k), (80, ref01_Add.fs k), (82, ref04_timesTen.fs k), (81, ref04_NearestBits.fs k), (78, ref01_Cmp.fs k), (76, ref01_Bit.fs k)]
def fs (k : Nat) : FS := ⟨[tQ, (.int .u64), (.int .i64)], [tL, .bool], fun (x : RX × Int × Int) => ref04_shortest.f k x.1 x.2.1 x.2.2⟩
theorem ok : FnO Tryz.prog 40 98 Tryz.f40 3 := okF _ (by kernel_rfl) (by kernel_rfl)
theorem c (k : Nat) : Contract Tryz.prog 40 (fs k) :=
  fnS [tQ, (.int .u64), (.int .i64)] [tL, .bool] ptL fns fgs0 fws0 (fun k (x : RX × Int × Int) => ref04_shortest.f k x.1 x.2.1 x.2.2) ok ⟨⟨rfl, fun _ => rfl, fun k x => by kernel_rfl⟩, ⟨rfl, fun _ => rfl, fun k x => by kernel_rfl⟩, ⟨rfl, fun _ => rfl, fun k x => by kernel_rfl⟩, trivial⟩ (fun k x => by kernel_rfl) (fun k => ⟨⟨ref04_tens.c k, ref01_Mul.c k, ref01_Div.c k, ref01_Add.c k, ref04_timesTen.c k, ref04_NearestBits.c k, ref01_Cmp.c k, ref01_Bit.c k, trivial⟩, trivial, trivial⟩) k
end ref04_shortest

namespace ref01_tenth
def s0 : PSig := ⟨0, [(84, (.int .u32), false)], [(0, .val tL), (1, .val (.int .i64)), (6, .own 0), (7, .val (.int .u64)), (8, .val (.int .i64))]⟩
def ptL : List (Pt (TD [tL, (.int .i64)])) := [⟨0, s0, fun k (x : LX × LX × Int × Int × Int) => ref01_tenth.p0 k x.1 x.2.1 x.2.2.1 x.2.2.2.1 x.2.2.2.2⟩]
def fns : Nat → List (FuncId × FS) := fun k => [(107, ref01_Norm.fs k)]
def fs (k : Nat) : FS := ⟨[tL, (.int .i64)], [tL, (.int .i64)], fun (x : LX × Int) => ref01_tenth.f k x.1 x.2⟩
theorem ok : FnO Tryz.prog 115 43 Tryz.f115 2 := okF _ (by kernel_rfl) (by kernel_rfl)
theorem c (k : Nat) : Contract Tryz.prog 115 (fs k) :=
  fnS [tL, (.int .i64)] [tL, (.int .i64)] ptL fns fgs0 fws0 (fun k (x : LX × Int) => ref01_tenth.f k x.1 x.2) ok ⟨⟨rfl, fun _ => rfl, fun k x => by kernel_rfl⟩, trivial⟩ (fun k x => by kernel_rfl) (fun k => ⟨⟨ref01_Norm.c k, trivial⟩, trivial, trivial⟩) k
end ref01_tenth

namespace ref01_Text
def s5 : PSig := ⟨0, [], []⟩
def s0 : PSig := ⟨0, [(5, (.int .u8), false)], [(0, .val tL), (1, .val (.int .i64)), (6, .own 0)]⟩
def s4 : PSig := ⟨0, [(5, (.int .u8), false), (5, (.int .u8), false)], [(6, .own 0), (8, .own 1), (9, .val (.int .i64))]⟩
def ptL : List (Pt (TD [.str, (.int .i64)])) := [⟨5, s5, fun k (x : Unit) => ref01_Text.p5 k x⟩, ⟨0, s0, fun k (x : LX × LX × Int) => ref01_Text.p0 k x.1 x.2.1 x.2.2⟩, ⟨4, s4, fun k (x : LX × LX × Int) => ref01_Text.p4 k x.1 x.2.1 x.2.2⟩]
def fns : Nat → List (FuncId × FS) := fun k => [(107, ref01_Norm.fs k), (115, ref01_tenth.fs k)]
def fs (k : Nat) : FS := ⟨[tL, (.int .i64)], [.str, (.int .i64)], fun (x : LX × Int) => ref01_Text.f k x.1 x.2⟩
theorem ok : FnO Tryz.prog 83 58 Tryz.f83 2 := okF _ (by kernel_rfl) (by kernel_rfl)
theorem c (k : Nat) : Contract Tryz.prog 83 (fs k) :=
  fnS [tL, (.int .i64)] [.str, (.int .i64)] ptL fns fgs0 fws0 (fun k (x : LX × Int) => ref01_Text.f k x.1 x.2) ok ⟨⟨rfl, fun _ => rfl, fun k x => by kernel_rfl⟩, ⟨rfl, fun _ => rfl, fun k x => by kernel_rfl⟩, ⟨rfl, fun _ => rfl, fun k x => by kernel_rfl⟩, trivial⟩ (fun k x => by kernel_rfl) (fun k => ⟨⟨ref01_Norm.c k, ref01_tenth.c k, trivial⟩, trivial, trivial⟩) k
end ref01_Text

namespace ref04_written
def s0 : PSig := ⟨0, [], [(5, .val .str), (7, .val (.int .i64)), (8, .val (.int .i64))]⟩
def s13 : PSig := ⟨0, [], [(5, .val .str), (7, .val (.int .i64)), (8, .val (.int .i64))]⟩
def s19 : PSig := ⟨0, [], [(7, .val (.int .i64)), (9, .val .str)]⟩
def ptL : List (Pt (TD [.str])) := [⟨0, s0, fun k (x : ByteArray × Int × Int) => ref04_written.p0 k x.1 x.2.1 x.2.2⟩, ⟨13, s13, fun k (x : ByteArray × Int × Int) => ref04_written.p13 k x.1 x.2.1 x.2.2⟩, ⟨19, s19, fun k (x : Int × ByteArray) => ref04_written.p19 k x.1 x.2⟩]
def fns : Nat → List (FuncId × FS) := fun k => [(83, ref01_Text.fs k), (75, ref01_Of.fs k)]
def fs (k : Nat) : FS := ⟨[tL, (.int .i64)], [.str], fun (x : LX × Int) => ref04_written.f k x.1 x.2⟩
theorem ok : FnO Tryz.prog 41 72 Tryz.f41 2 := okF _ (by kernel_rfl) (by kernel_rfl)
theorem c (k : Nat) : Contract Tryz.prog 41 (fs k) :=
  fnS [tL, (.int .i64)] [.str] ptL fns fgs0 fws0 (fun k (x : LX × Int) => ref04_written.f k x.1 x.2) ok ⟨⟨rfl, fun _ => rfl, fun k x => by kernel_rfl⟩, ⟨rfl, fun _ => rfl, fun k x => by kernel_rfl⟩, ⟨rfl, fun _ => rfl, fun k x => by kernel_rfl⟩, trivial⟩ (fun k x => by kernel_rfl) (fun k => ⟨⟨ref01_Text.c k, ref01_Of.c k, trivial⟩, trivial, trivial⟩) k
end ref04_written

namespace ref04_Short
def s19 : PSig := ⟨0, [], [(4, .val (.int .u64)), (5, .val .str)]⟩
def s0 : PSig := ⟨0, [(36, tQ, true)], [(4, .val (.int .u64)), (5, .val .str), (8, .ptr 0 []), (10, .val (.int .i64))]⟩
def s4 : PSig := ⟨0, [(36, tQ, true)], [(4, .val (.int .u64)), (5, .val .str), (8, .ptr 0 []), (10, .val (.int .i64)), (11, .val (.int .i64))]⟩
def ptL : List (Pt (TD [.str, (.int .i64)])) := [⟨19, s19, fun k (x : Int × ByteArray) => ref04_Short.p19 k x.1 x.2⟩, ⟨0, s0, fun k (x : RX × Int × ByteArray × Int) => ref04_Short.p0 k x.1 x.2.1 x.2.2.1 x.2.2.2⟩, ⟨4, s4, fun k (x : RX × Int × ByteArray × Int × Int) => ref04_Short.p4 k x.1 x.2.1 x.2.2.1 x.2.2.2.1 x.2.2.2.2⟩]
def fns : Nat → List (FuncId × FS) := fun k => [(18, ⟨[.flt], [(.int .u64)], fun (x : Nat) => math_Float64bits.f k x⟩), (19, ref04_IsNaN.fs k), (20, ref04_IsInf.fs k), (36, ref04_parts.fs k), (37, ref04_scaled.fs k), (38, ref01_Bits.fs k), (39, ref04_lessTens.fs k), (40, ref04_shortest.fs k), (41, ref04_written.fs k)]
def fs (k : Nat) : FS := ⟨[.flt], [.str, (.int .i64)], fun (x : Nat) => ref04_Short.f k x⟩
theorem ok : FnO Tryz.prog 15 79 Tryz.f15 1 := okF _ (by kernel_rfl) (by kernel_rfl)
theorem c (k : Nat) : Contract Tryz.prog 15 (fs k) :=
  fnS [.flt] [.str, (.int .i64)] ptL fns fgs0 fws0 (fun k (x : Nat) => ref04_Short.f k x) ok ⟨⟨rfl, fun _ => rfl, fun k x => by kernel_rfl⟩, ⟨rfl, fun _ => rfl, fun k x => by kernel_rfl⟩, ⟨rfl, fun _ => rfl, fun k x => by kernel_rfl⟩, trivial⟩ (fun k x => by kernel_rfl) (fun k => ⟨⟨math_Float64bits.c k, ref04_IsNaN.c k, ref04_IsInf.c k, ref04_parts.c k, ref04_scaled.c k, ref01_Bits.c k, ref04_lessTens.c k, ref04_shortest.c k, ref04_written.c k, trivial⟩, trivial, trivial⟩) k
end ref04_Short

namespace law04_ApproxShorts
def ptL : List (Pt (TD [.bool])) := []
def fns : Nat → List (FuncId × FS) := fun k => [(8, approx_Short.fs k), (15, ref04_Short.fs k)]
def fs (k : Nat) : FS := ⟨[.flt], [.bool], fun (x : Nat) => law04_ApproxShorts.f k x⟩
theorem ok : FnO Tryz.prog 5 25 Tryz.f5 1 := okF _ (by kernel_rfl) (by kernel_rfl)
theorem c (k : Nat) : Contract Tryz.prog 5 (fs k) :=
  fnS [.flt] [.bool] ptL fns fgs0 fws0 (fun k (x : Nat) => law04_ApproxShorts.f k x) ok trivial (fun k x => by kernel_rfl) (fun k => ⟨⟨approx_Short.c k, ref04_Short.c k, trivial⟩, trivial, trivial⟩) k
end law04_ApproxShorts
end Go.Proofs.YtedocilafacliaaGreatDoor
