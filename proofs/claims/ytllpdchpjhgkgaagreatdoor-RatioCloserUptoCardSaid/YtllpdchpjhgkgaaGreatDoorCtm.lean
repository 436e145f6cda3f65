/- Contracts, printed by fgen.py. -/
import Derived.Test.YtllpdchpjhgkgaaGreatDoorPlm
import Derived.Test.YtllpdchpjhgkgaaGreatDoorProg
import Derived.Test.YtllpdchpjhgkgaaGreatDoorBsm
namespace Go.Proofs.YtllpdchpjhgkgaaGreatDoor
open Go.FK
theorem mix : Tryz.prog.follows .mixedOrders = true ∧ ArrsOk Tryz.prog := ⟨by kernel_rfl, arrsB_ok (by kernel_rfl)⟩
def tyTab : List (TypeId × TI) := [(2, ⟨(.int .i64), 0, 0⟩), (3, ⟨(.int .i64), 0, 0⟩), (4, ⟨.bool, 0, 0⟩), (5, ⟨(.int .u8), 0, 0⟩), (9, ⟨.str, 0, 0⟩), (21, ⟨(.int .i32), 0, 0⟩), (23, ⟨(.list (.int .u32)), 43, 4⟩), (25, ⟨(.st (.pair .bool (.list (.int .u32)))), 0, 0⟩), (27, ⟨(.st (.pair (.st (.pair .bool (.list (.int .u32)))) (.list (.int .u32)))), 0, 0⟩), (28, ⟨(.int .i64), 0, 0⟩), (43, ⟨(.int .u32), 0, 0⟩), (56, ⟨(.list (.st (.pair .bool (.list (.int .u32))))), 25, 32⟩), (60, ⟨(.int .u64), 0, 0⟩), (75, ⟨(.int .u64), 0, 0⟩), (93, ⟨(.list (.int .i64)), 3, 8⟩), (108, ⟨.nilI, 0, 0⟩)]
theorem tyOk : tysB Tryz.prog tyTab = true := by kernel_rfl

abbrev tL : Ty := .list (.int .u32)
abbrev tZ : Ty := .st (.pair .bool (.list (.int .u32)))
abbrev tQ : Ty := .st (.pair (.st (.pair .bool (.list (.int .u32)))) (.list (.int .u32)))
def fws0 : Nat → List (FuncId × FW) := fun _ => []
def fns0 : Nat → List (FuncId × FS) := fun _ => []
def fgs0 : Nat → List (FuncId × FG) := fun _ => []
abbrev FnO (P : Program) (f : FuncId) (n : Nat) (fn : Func) (np : Nat) : Prop := FnOk P f n fn.results.toList (fn.body.getD .skip) np
theorem okF {P : Program} {f : FuncId} {n np : Nat} (fn : Func) (h : P.funcs[f]? = some fn) (hb : (fn.body.isSome && (fn.ntmps == n && (!(fn.name == "runtime.NumGoroutine") && (Go.FK.distinct (ptsOf 0 (fn.body.getD .skip)) && Nat.ble np n)))) = true) : FnO P f n fn np := by
  simp only [Bool.and_eq_true, Bool.not_eq_true', beq_iff_eq, Nat.ble_eq] at hb
  obtain ⟨h1, h2, h3, h4, h5⟩ := hb
  refine ⟨⟨fn, h, ?_, h2, rfl, h3⟩, h4, h5⟩
  cases hc : fn.body with
  | none => rw [hc] at h1; cases h1
  | some c => rfl
theorem fnS (ps rs : List Ty) (pts : List (Pt (TD rs))) (fns : Nat → List (FuncId × FS)) (fgs : Nat → List (FuncId × FG)) (fws : Nat → List (FuncId × FW)) (main : Nat → TD ps → Option (TD rs)) {f : FuncId} {n : Nat} {rv : List ResultVar} {c : Code} (hf : FnOk Tryz.prog f n rv c ps.length) (hpt : PtsOk (mkE tyTab fns fgs fws pts) 0 n (endK (lookT tyTab) rv rs) c pts) (hmain : ∀ k x, fnK (mkE tyTab fns fgs fws pts k) n rv c (encT ps x) = main k x) (hall : ∀ k, AllK Tryz.prog (fns k) (fgs k) (fws k)) (k : Nat) : Contract Tryz.prog f ⟨ps, rs, main k⟩ := fn_sound hf mix tyOk hpt hmain hall k

namespace law03_nat
def s0 : PSig := ⟨0, [(43, (.int .u32), false)], [(0, .val tL), (3, .own 0), (4, .val (.int .i64))]⟩
def ptL : List (Pt (TD [tL])) := [⟨0, s0, fun k (x : LX × LX × Int) => law03_nat.p0 k x.1 x.2.1 x.2.2⟩]
def fs (k : Nat) : FS := ⟨[tL], [tL], fun (x : LX) => law03_nat.f k x⟩
theorem ok : FnO Tryz.prog 7 22 Tryz.f7 1 := okF _ (by kernel_rfl) (by kernel_rfl)
theorem c (k : Nat) : Contract Tryz.prog 7 (fs k) :=
  fnS [tL] [tL] ptL fns0 fgs0 fws0 (fun k (x : LX) => law03_nat.f k x) ok ⟨⟨rfl, fun _ => rfl, fun k x => by kernel_rfl⟩, trivial⟩ (fun k x => by kernel_rfl) (fun _ => ⟨trivial, trivial, trivial⟩) k
end law03_nat

namespace law03_whole
def ptL : List (Pt (TD [tZ])) := []
def fns : Nat → List (FuncId × FS) := fun k => [(7, law03_nat.fs k)]
def fs (k : Nat) : FS := ⟨[tZ], [tZ], fun (x : ZX) => law03_whole.f k x⟩
theorem ok : FnO Tryz.prog 30 9 Tryz.f30 1 := okF _ (by kernel_rfl) (by kernel_rfl)
theorem c (k : Nat) : Contract Tryz.prog 30 (fs k) :=
  fnS [tZ] [tZ] ptL fns fgs0 fws0 (fun k (x : ZX) => law03_whole.f k x) ok trivial (fun k x => by kernel_rfl) (fun k => ⟨⟨law03_nat.c k, trivial⟩, trivial, trivial⟩) k
end law03_whole

namespace law03_twin
def ptL : List (Pt (TD [tQ])) := []
def fns : Nat → List (FuncId × FS) := fun k => [(30, law03_whole.fs k), (7, law03_nat.fs k)]
def fs (k : Nat) : FS := ⟨[tQ], [tQ], fun (x : RX) => law03_twin.f k x⟩
theorem ok : FnO Tryz.prog 6 10 Tryz.f6 1 := okF _ (by kernel_rfl) (by kernel_rfl)
theorem c (k : Nat) : Contract Tryz.prog 6 (fs k) :=
  fnS [tQ] [tQ] ptL fns fgs0 fws0 (fun k (x : RX) => law03_twin.f k x) ok trivial (fun k x => by kernel_rfl) (fun k => ⟨⟨law03_whole.c k, law03_nat.c k, trivial⟩, trivial, trivial⟩) k
end law03_twin

namespace nat_trim
def s0 : PSig := ⟨0, [], [(0, .val tL), (3, .val (.int .i64))]⟩
def s9 : PSig := ⟨0, [], [(0, .val tL), (3, .val (.int .i64))]⟩
def ptL : List (Pt (TD [tL])) := [⟨0, s0, fun k (x : LX × Int) => nat_trim.p0 k x.1 x.2⟩, ⟨9, s9, fun k (x : LX × Int) => nat_trim.p9 k x.1 x.2⟩]
def fs (k : Nat) : FS := ⟨[tL], [tL], fun (x : LX) => nat_trim.f k x⟩
theorem ok : FnO Tryz.prog 48 21 Tryz.f48 1 := okF _ (by kernel_rfl) (by kernel_rfl)
theorem c (k : Nat) : Contract Tryz.prog 48 (fs k) :=
  fnS [tL] [tL] ptL fns0 fgs0 fws0 (fun k (x : LX) => nat_trim.f k x) ok ⟨⟨rfl, fun _ => rfl, fun k x => by kernel_rfl⟩, ⟨rfl, fun _ => rfl, fun k x => by kernel_rfl⟩, trivial⟩ (fun k x => by kernel_rfl) (fun _ => ⟨trivial, trivial, trivial⟩) k
end nat_trim

namespace bits_Len32
def s9 : PSig := ⟨0, [], [(0, .val (.int .u32)), (2, .val (.int .i64))]⟩
def s15 : PSig := ⟨0, [], [(0, .val (.int .u32)), (2, .val (.int .i64))]⟩
def ptL : List (Pt (TD [(.int .i64)])) := [⟨9, s9, fun k (x : Int × Int) => bits_Len32.p9 k x.1 x.2⟩, ⟨15, s15, fun k (x : Int × Int) => bits_Len32.p15 k x.1 x.2⟩]
def fs (k : Nat) : FS := ⟨[(.int .u32)], [(.int .i64)], fun (x : Int) => bits_Len32.f k x⟩
theorem ok : FnO Tryz.prog 49 19 Tryz.f49 1 := okF _ (by kernel_rfl) (by kernel_rfl)
theorem c (k : Nat) : Contract Tryz.prog 49 (fs k) :=
  fnS [(.int .u32)] [(.int .i64)] ptL fns0 fgs0 fws0 (fun k (x : Int) => bits_Len32.f k x) ok ⟨⟨rfl, fun _ => rfl, fun k x => by kernel_rfl⟩, ⟨rfl, fun _ => rfl, fun k x => by kernel_rfl⟩, trivial⟩ (fun k x => by kernel_rfl) (fun _ => ⟨trivial, trivial, trivial⟩) k
end bits_Len32

namespace nat_Bits
def ptL : List (Pt (TD [(.int .i64)])) := []
def fns : Nat → List (FuncId × FS) := fun k => [(48, nat_trim.fs k), (49, bits_Len32.fs k)]
def fs (k : Nat) : FS := ⟨[tL], [(.int .i64)], fun (x : LX) => nat_Bits.f k x⟩
theorem ok : FnO Tryz.prog 16 20 Tryz.f16 1 := okF _ (by kernel_rfl) (by kernel_rfl)
theorem c (k : Nat) : Contract Tryz.prog 16 (fs k) :=
  fnS [tL] [(.int .i64)] ptL fns fgs0 fws0 (fun k (x : LX) => nat_Bits.f k x) ok trivial (fun k x => by kernel_rfl) (fun k => ⟨⟨nat_trim.c k, bits_Len32.c k, trivial⟩, trivial, trivial⟩) k
end nat_Bits

namespace nat_own
def ptL : List (Pt (TD [tL])) := []
def fns : Nat → List (FuncId × FS) := fun k => [(48, nat_trim.fs k)]
def fs (k : Nat) : FS := ⟨[tL], [tL], fun (x : LX) => nat_own.f k x⟩
theorem ok : FnO Tryz.prog 59 16 Tryz.f59 1 := okF _ (by kernel_rfl) (by kernel_rfl)
theorem c (k : Nat) : Contract Tryz.prog 59 (fs k) :=
  fnS [tL] [tL] ptL fns fgs0 fws0 (fun k (x : LX) => nat_own.f k x) ok trivial (fun k x => by kernel_rfl) (fun k => ⟨⟨nat_trim.c k, trivial⟩, trivial, trivial⟩) k
def fw (k : Nat) : FW := ⟨[tL], 43, (.int .u32), false, fun (x : LX) => nat_own.f k x⟩
def ptW : List (Pt (List (Ty.D (.int .u32)))) := []
theorem cw (k : Nat) : ContractW Tryz.prog 59 (fw k) :=
  fn_soundW (ps := [tL]) (e := 43) (t := (.int .u32)) (bx := false) (pts := ptW) (fns := fns) (fgs := fgs0) (fws := fws0) (tys := tyTab) (main := fun k (x : LX) => nat_own.f k x) ok mix tyOk trivial (fun k x => by kernel_rfl) (fun k => ⟨⟨nat_trim.c k, trivial⟩, trivial, trivial⟩) k
end nat_own

namespace nat_Cmp
def s0 : PSig := ⟨0, [], [(0, .val tL), (1, .val tL), (5, .val (.int .i64))]⟩
def ptL : List (Pt (TD [(.int .i64)])) := [⟨0, s0, fun k (x : LX × LX × Int) => nat_Cmp.p0 k x.1 x.2.1 x.2.2⟩]
def fns : Nat → List (FuncId × FS) := fun k => [(48, nat_trim.fs k)]
def fs (k : Nat) : FS := ⟨[tL, tL], [(.int .i64)], fun (x : LX × LX) => nat_Cmp.f k x.1 x.2⟩
theorem ok : FnO Tryz.prog 18 45 Tryz.f18 2 := okF _ (by kernel_rfl) (by kernel_rfl)
theorem c (k : Nat) : Contract Tryz.prog 18 (fs k) :=
  fnS [tL, tL] [(.int .i64)] ptL fns fgs0 fws0 (fun k (x : LX × LX) => nat_Cmp.f k x.1 x.2) ok ⟨⟨rfl, fun _ => rfl, fun k x => by kernel_rfl⟩, trivial⟩ (fun k x => by kernel_rfl) (fun k => ⟨⟨nat_trim.c k, trivial⟩, trivial, trivial⟩) k
end nat_Cmp

namespace bits_Div32
def s7 : PSig := ⟨0, [], [(0, .val (.int .u32)), (1, .val (.int .u32)), (2, .val (.int .u32))]⟩
def ptL : List (Pt (TD [(.int .u32), (.int .u32)])) := [⟨7, s7, fun k (x : Int × Int × Int) => bits_Div32.p7 k x.1 x.2.1 x.2.2⟩]
def fs (k : Nat) : FS := ⟨[(.int .u32), (.int .u32), (.int .u32)], [(.int .u32), (.int .u32)], fun (x : Int × Int × Int) => bits_Div32.f k x.1 x.2.1 x.2.2⟩
theorem ok : FnO Tryz.prog 91 33 Tryz.f91 3 := okF _ (by kernel_rfl) (by kernel_rfl)
theorem c (k : Nat) : Contract Tryz.prog 91 (fs k) :=
  fnS [(.int .u32), (.int .u32), (.int .u32)] [(.int .u32), (.int .u32)] ptL fns0 fgs0 fws0 (fun k (x : Int × Int × Int) => bits_Div32.f k x.1 x.2.1 x.2.2) ok ⟨⟨rfl, fun _ => rfl, fun k x => by kernel_rfl⟩, trivial⟩ (fun k x => by kernel_rfl) (fun _ => ⟨trivial, trivial, trivial⟩) k
end bits_Div32

namespace nat_short
def s0 : PSig := ⟨0, [(43, (.int .u32), false)], [(0, .val tL), (1, .val (.int .u32)), (6, .own 0), (7, .val (.int .u32)), (8, .val (.int .i64))]⟩
def ptL : List (Pt (TD [tL, (.int .u32)])) := [⟨0, s0, fun k (x : LX × LX × Int × Int × Int) => nat_short.p0 k x.1 x.2.1 x.2.2.1 x.2.2.2.1 x.2.2.2.2⟩]
def fns : Nat → List (FuncId × FS) := fun k => [(91, bits_Div32.fs k)]
def fs (k : Nat) : FS := ⟨[tL, (.int .u32)], [tL, (.int .u32)], fun (x : LX × Int) => nat_short.f k x.1 x.2⟩
theorem ok : FnO Tryz.prog 61 34 Tryz.f61 2 := okF _ (by kernel_rfl) (by kernel_rfl)
theorem c (k : Nat) : Contract Tryz.prog 61 (fs k) :=
  fnS [tL, (.int .u32)] [tL, (.int .u32)] ptL fns fgs0 fws0 (fun k (x : LX × Int) => nat_short.f k x.1 x.2) ok ⟨⟨rfl, fun _ => rfl, fun k x => by kernel_rfl⟩, trivial⟩ (fun k x => by kernel_rfl) (fun k => ⟨⟨bits_Div32.c k, trivial⟩, trivial, trivial⟩) k
end nat_short

namespace bits_LeadingZeros32
def ptL : List (Pt (TD [(.int .i64)])) := []
def fns : Nat → List (FuncId × FS) := fun k => [(49, bits_Len32.fs k)]
def fs (k : Nat) : FS := ⟨[(.int .u32)], [(.int .i64)], fun (x : Int) => bits_LeadingZeros32.f k x⟩
theorem ok : FnO Tryz.prog 92 6 Tryz.f92 1 := okF _ (by kernel_rfl) (by kernel_rfl)
theorem c (k : Nat) : Contract Tryz.prog 92 (fs k) :=
  fnS [(.int .u32)] [(.int .i64)] ptL fns fgs0 fws0 (fun k (x : Int) => bits_LeadingZeros32.f k x) ok trivial (fun k x => by kernel_rfl) (fun k => ⟨⟨bits_Len32.c k, trivial⟩, trivial, trivial⟩) k
end bits_LeadingZeros32

namespace nat_moved
def s0 : PSig := ⟨0, [(43, (.int .u32), false)], [(0, .val tL), (1, .val (.int .i64)), (5, .own 0), (12, .val (.int .i64)), (13, .val (.int .i64))]⟩
def ptL : List (Pt (TD [tL])) := [⟨0, s0, fun k (x : LX × LX × Int × Int × Int) => nat_moved.p0 k x.1 x.2.1 x.2.2.1 x.2.2.2.1 x.2.2.2.2⟩]
def fs (k : Nat) : FS := ⟨[tL, (.int .i64)], [tL], fun (x : LX × Int) => nat_moved.f k x.1 x.2⟩
theorem ok : FnO Tryz.prog 93 43 Tryz.f93 2 := okF _ (by kernel_rfl) (by kernel_rfl)
theorem c (k : Nat) : Contract Tryz.prog 93 (fs k) :=
  fnS [tL, (.int .i64)] [tL] ptL fns0 fgs0 fws0 (fun k (x : LX × Int) => nat_moved.f k x.1 x.2) ok ⟨⟨rfl, fun _ => rfl, fun k x => by kernel_rfl⟩, trivial⟩ (fun k x => by kernel_rfl) (fun _ => ⟨trivial, trivial, trivial⟩) k
def fw (k : Nat) : FW := ⟨[tL, (.int .i64)], 43, (.int .u32), false, fun (x : LX × Int) => nat_moved.f k x.1 x.2⟩
def ptW : List (Pt (List (Ty.D (.int .u32)))) := [⟨0, s0, fun k (x : LX × LX × Int × Int × Int) => nat_moved.p0 k x.1 x.2.1 x.2.2.1 x.2.2.2.1 x.2.2.2.2⟩]
theorem cw (k : Nat) : ContractW Tryz.prog 93 (fw k) :=
  fn_soundW (ps := [tL, (.int .i64)]) (e := 43) (t := (.int .u32)) (bx := false) (pts := ptW) (fns := fns0) (fgs := fgs0) (fws := fws0) (tys := tyTab) (main := fun k (x : LX × Int) => nat_moved.f k x.1 x.2) ok mix tyOk ⟨⟨rfl, fun _ => rfl, fun k x => by kernel_rfl⟩, trivial⟩ (fun k x => by kernel_rfl) (fun _ => ⟨trivial, trivial, trivial⟩) k
end nat_moved

namespace bits_Sub32
def ptL : List (Pt (TD [(.int .u32), (.int .u32)])) := []
def fs (k : Nat) : FS := ⟨[(.int .u32), (.int .u32), (.int .u32)], [(.int .u32), (.int .u32)], fun (x : Int × Int × Int) => bits_Sub32.f k x.1 x.2.1 x.2.2⟩
theorem ok : FnO Tryz.prog 60 25 Tryz.f60 3 := okF _ (by kernel_rfl) (by kernel_rfl)
theorem c (k : Nat) : Contract Tryz.prog 60 (fs k) :=
  fnS [(.int .u32), (.int .u32), (.int .u32)] [(.int .u32), (.int .u32)] ptL fns0 fgs0 fws0 (fun k (x : Int × Int × Int) => bits_Sub32.f k x.1 x.2.1 x.2.2) ok trivial (fun k x => by kernel_rfl) (fun _ => ⟨trivial, trivial, trivial⟩) k
end bits_Sub32

namespace bits_Add32
def ptL : List (Pt (TD [(.int .u32), (.int .u32)])) := []
def fs (k : Nat) : FS := ⟨[(.int .u32), (.int .u32), (.int .u32)], [(.int .u32), (.int .u32)], fun (x : Int × Int × Int) => bits_Add32.f k x.1 x.2.1 x.2.2⟩
theorem ok : FnO Tryz.prog 58 22 Tryz.f58 3 := okF _ (by kernel_rfl) (by kernel_rfl)
theorem c (k : Nat) : Contract Tryz.prog 58 (fs k) :=
  fnS [(.int .u32), (.int .u32), (.int .u32)] [(.int .u32), (.int .u32)] ptL fns0 fgs0 fws0 (fun k (x : Int × Int × Int) => bits_Add32.f k x.1 x.2.1 x.2.2) ok trivial (fun k x => by kernel_rfl) (fun _ => ⟨trivial, trivial, trivial⟩) k
end bits_Add32

namespace nat_digit
def s0 : PSig := ⟨1, [(43, (.int .u32), false)], [(0, .win 0), (1, .val tL), (5, .val (.int .i64)), (7, .val (.int .u64)), (8, .val (.int .u64))]⟩
def s11 : PSig := ⟨1, [(43, (.int .u32), false)], [(0, .win 0), (1, .val tL), (5, .val (.int .i64)), (7, .val (.int .u64)), (8, .val (.int .u64))]⟩
def s4 : PSig := ⟨1, [(43, (.int .u32), false)], [(0, .win 0), (1, .val tL), (5, .val (.int .i64)), (7, .val (.int .u64)), (9, .val (.int .u32)), (10, .val (.int .u64)), (82, .val (.int .i64)), (83, .val (.int .i64))]⟩
def s8 : PSig := ⟨1, [(43, (.int .u32), false)], [(0, .win 0), (1, .val tL), (5, .val (.int .i64)), (7, .val (.int .u64)), (13, .val (.int .u32)), (130, .val (.int .i64)), (131, .val (.int .i64))]⟩
def ptL : List (Pt (TD ([.win 43 (.int .u32), .val tL].flatMap PK.outs ++ [(.int .u32)]))) := [⟨0, s0, fun k (x : LX × Nat × Nat × LX × Int × Int × Int) => nat_digit.p0 k x.1 x.2.1 x.2.2.1 x.2.2.2.1 x.2.2.2.2.1 x.2.2.2.2.2.1 x.2.2.2.2.2.2⟩, ⟨11, s11, fun k (x : LX × Nat × Nat × LX × Int × Int × Int) => nat_digit.p11 k x.1 x.2.1 x.2.2.1 x.2.2.2.1 x.2.2.2.2.1 x.2.2.2.2.2.1 x.2.2.2.2.2.2⟩, ⟨4, s4, fun k (x : LX × Nat × Nat × LX × Int × Int × Int × Int × Int × Int) => nat_digit.p4 k x.1 x.2.1 x.2.2.1 x.2.2.2.1 x.2.2.2.2.1 x.2.2.2.2.2.1 x.2.2.2.2.2.2.1 x.2.2.2.2.2.2.2.1 x.2.2.2.2.2.2.2.2.1 x.2.2.2.2.2.2.2.2.2⟩, ⟨8, s8, fun k (x : LX × Nat × Nat × LX × Int × Int × Int × Int × Int) => nat_digit.p8 k x.1 x.2.1 x.2.2.1 x.2.2.2.1 x.2.2.2.2.1 x.2.2.2.2.2.1 x.2.2.2.2.2.2.1 x.2.2.2.2.2.2.2.1 x.2.2.2.2.2.2.2.2⟩]
def fns : Nat → List (FuncId × FS) := fun k => [(60, bits_Sub32.fs k), (58, bits_Add32.fs k)]
def fg (k : Nat) : FG := ⟨[.win 43 (.int .u32), .val tL], [(.int .u32)], none, fun (x : LX × Nat × Nat × LX) => nat_digit.f k x.1 x.2.1 x.2.2.1 x.2.2.2⟩
theorem ok : FnO Tryz.prog 94 160 Tryz.f94 2 := okF _ (by kernel_rfl) (by kernel_rfl)
theorem c (k : Nat) : ContractG Tryz.prog 94 (fg k) :=
  fn_soundG (ps := [.win 43 (.int .u32), .val tL]) (rs := [(.int .u32)]) (pts := ptL) (fns := fns) (fgs := fgs0) (fws := fws0) (tys := tyTab) (main := fun k (x : LX × Nat × Nat × LX) => nat_digit.f k x.1 x.2.1 x.2.2.1 x.2.2.2) ok rfl mix tyOk ⟨⟨rfl, fun _ => rfl, fun k x => by kernel_rfl⟩, ⟨rfl, fun _ => rfl, fun k x => by kernel_rfl⟩, ⟨rfl, fun _ => rfl, fun k x => by kernel_rfl⟩, ⟨rfl, fun _ => rfl, fun k x => by kernel_rfl⟩, trivial⟩ (fun k x => by kernel_rfl) (fun k => ⟨⟨bits_Sub32.c k, bits_Add32.c k, trivial⟩, trivial, trivial⟩) k
end nat_digit

namespace nat_long
def s0 : PSig := ⟨0, [(43, (.int .u32), false), (43, (.int .u32), false)], [(6, .val (.int .i64)), (7, .val tL), (8, .own 0), (9, .val (.int .i64)), (10, .own 1), (11, .val (.int .i64))]⟩
def s4 : PSig := ⟨0, [(43, (.int .u32), false), (43, (.int .u32), false), (43, (.int .u32), false)], [(6, .val (.int .i64)), (8, .own 0), (10, .own 1), (12, .own 2), (60, .val (.int .i64)), (61, .val (.int .i64))]⟩
def fws : Nat → List (FuncId × FW) := fun k => [(93, ⟨[tL, (.int .i64)], 43, (.int .u32), false, fun (x : LX × Int) => nat_moved.f k x.1 x.2⟩), (59, ⟨[tL], 43, (.int .u32), false, fun (x : LX) => nat_own.f k x⟩)]
def ptL : List (Pt (TD [tL, tL])) := [⟨0, s0, fun k (x : LX × LX × Int × LX × Int × Int) => nat_long.p0 k x.1 x.2.1 x.2.2.1 x.2.2.2.1 x.2.2.2.2.1 x.2.2.2.2.2⟩, ⟨4, s4, fun k (x : LX × LX × LX × Int × Int × Int) => nat_long.p4 k x.1 x.2.1 x.2.2.1 x.2.2.2.1 x.2.2.2.2.1 x.2.2.2.2.2⟩]
def fns : Nat → List (FuncId × FS) := fun k => [(92, bits_LeadingZeros32.fs k)]
def fgs : Nat → List (FuncId × FG) := fun k => [(94, ⟨[.win 43 (.int .u32), .val tL], [(.int .u32)], none, fun (x : LX × Nat × Nat × LX) => nat_digit.f k x.1 x.2.1 x.2.2.1 x.2.2.2⟩)]
def fs (k : Nat) : FS := ⟨[tL, tL], [tL, tL], fun (x : LX × LX) => nat_long.f k x.1 x.2⟩
theorem ok : FnO Tryz.prog 62 89 Tryz.f62 2 := okF _ (by kernel_rfl) (by kernel_rfl)
theorem c (k : Nat) : Contract Tryz.prog 62 (fs k) :=
  fnS [tL, tL] [tL, tL] ptL fns fgs fws (fun k (x : LX × LX) => nat_long.f k x.1 x.2) ok ⟨⟨rfl, fun _ => rfl, fun k x => by kernel_rfl⟩, ⟨rfl, fun _ => rfl, fun k x => by kernel_rfl⟩, trivial⟩ (fun k x => by kernel_rfl) (fun k => ⟨⟨bits_LeadingZeros32.c k, trivial⟩, ⟨nat_digit.c k, trivial⟩, ⟨nat_moved.cw k, nat_own.cw k, trivial⟩⟩) k
end nat_long

namespace nat_Div
def ptL : List (Pt (TD [tL, tL, (.int .i64)])) := []
def fns : Nat → List (FuncId × FS) := fun k => [(48, nat_trim.fs k), (18, nat_Cmp.fs k), (59, nat_own.fs k), (61, nat_short.fs k), (62, nat_long.fs k)]
def fs (k : Nat) : FS := ⟨[tL, tL], [tL, tL, (.int .i64)], fun (x : LX × LX) => nat_Div.f k x.1 x.2⟩
theorem ok : FnO Tryz.prog 27 51 Tryz.f27 2 := okF _ (by kernel_rfl) (by kernel_rfl)
theorem c (k : Nat) : Contract Tryz.prog 27 (fs k) :=
  fnS [tL, tL] [tL, tL, (.int .i64)] ptL fns fgs0 fws0 (fun k (x : LX × LX) => nat_Div.f k x.1 x.2) ok trivial (fun k x => by kernel_rfl) (fun k => ⟨⟨nat_trim.c k, nat_Cmp.c k, nat_own.c k, nat_short.c k, nat_long.c k, trivial⟩, trivial, trivial⟩) k
end nat_Div

namespace nat_Gcd
def s0 : PSig := ⟨0, [], [(0, .val tL), (1, .val tL)]⟩
def ptL : List (Pt (TD [tL])) := [⟨0, s0, fun k (x : LX × LX) => nat_Gcd.p0 k x.1 x.2⟩]
def fns : Nat → List (FuncId × FS) := fun k => [(59, nat_own.fs k), (27, nat_Div.fs k)]
def fs (k : Nat) : FS := ⟨[tL, tL], [tL], fun (x : LX × LX) => nat_Gcd.f k x.1 x.2⟩
theorem ok : FnO Tryz.prog 63 25 Tryz.f63 2 := okF _ (by kernel_rfl) (by kernel_rfl)
theorem c (k : Nat) : Contract Tryz.prog 63 (fs k) :=
  fnS [tL, tL] [tL] ptL fns fgs0 fws0 (fun k (x : LX × LX) => nat_Gcd.f k x.1 x.2) ok ⟨⟨rfl, fun _ => rfl, fun k x => by kernel_rfl⟩, trivial⟩ (fun k x => by kernel_rfl) (fun k => ⟨⟨nat_own.c k, nat_Div.c k, trivial⟩, trivial, trivial⟩) k
end nat_Gcd

namespace whole_core
def s0 : PSig := ⟨0, [], [(0, .val tL), (3, .val (.int .i64))]⟩
def s9 : PSig := ⟨0, [], [(0, .val tL), (3, .val (.int .i64))]⟩
def ptL : List (Pt (TD [tL])) := [⟨0, s0, fun k (x : LX × Int) => whole_core.p0 k x.1 x.2⟩, ⟨9, s9, fun k (x : LX × Int) => whole_core.p9 k x.1 x.2⟩]
def fs (k : Nat) : FS := ⟨[tL], [tL], fun (x : LX) => whole_core.f k x⟩
theorem ok : FnO Tryz.prog 90 22 Tryz.f90 1 := okF _ (by kernel_rfl) (by kernel_rfl)
theorem c (k : Nat) : Contract Tryz.prog 90 (fs k) :=
  fnS [tL] [tL] ptL fns0 fgs0 fws0 (fun k (x : LX) => whole_core.f k x) ok ⟨⟨rfl, fun _ => rfl, fun k x => by kernel_rfl⟩, ⟨rfl, fun _ => rfl, fun k x => by kernel_rfl⟩, trivial⟩ (fun k x => by kernel_rfl) (fun _ => ⟨trivial, trivial, trivial⟩) k
end whole_core

namespace whole_Sign
def ptL : List (Pt (TD [(.int .i64)])) := []
def fns : Nat → List (FuncId × FS) := fun k => [(90, whole_core.fs k)]
def fs (k : Nat) : FS := ⟨[tZ], [(.int .i64)], fun (x : ZX) => whole_Sign.f k x⟩
theorem ok : FnO Tryz.prog 57 12 Tryz.f57 1 := okF _ (by kernel_rfl) (by kernel_rfl)
theorem c (k : Nat) : Contract Tryz.prog 57 (fs k) :=
  fnS [tZ] [(.int .i64)] ptL fns fgs0 fws0 (fun k (x : ZX) => whole_Sign.f k x) ok trivial (fun k x => by kernel_rfl) (fun k => ⟨⟨whole_core.c k, trivial⟩, trivial, trivial⟩) k
end whole_Sign

namespace nat_Norm
def ptL : List (Pt (TD [tL])) := []
def fns : Nat → List (FuncId × FS) := fun k => [(59, nat_own.fs k)]
def fs (k : Nat) : FS := ⟨[tL], [tL], fun (x : LX) => nat_Norm.f k x⟩
theorem ok : FnO Tryz.prog 84 5 Tryz.f84 1 := okF _ (by kernel_rfl) (by kernel_rfl)
theorem c (k : Nat) : Contract Tryz.prog 84 (fs k) :=
  fnS [tL] [tL] ptL fns fgs0 fws0 (fun k (x : LX) => nat_Norm.f k x) ok trivial (fun k x => by kernel_rfl) (fun k => ⟨⟨nat_own.c k, trivial⟩, trivial, trivial⟩) k
end nat_Norm

namespace whole_signed
def s0 : PSig := ⟨0, [(25, tZ, true)], [(0, .val tL), (4, .ptr 0 []), (5, .val (.int .i64)), (10, .val (.list (.int .i64))), (11, .val (.int .i64)), (12, .val (.int .i64))]⟩
def ptL : List (Pt (TD [tZ])) := [⟨0, s0, fun k (x : ZX × LX × Int × LX × Int × Int) => whole_signed.p0 k x.1 x.2.1 x.2.2.1 x.2.2.2.1 x.2.2.2.2.1 x.2.2.2.2.2⟩]
def fns : Nat → List (FuncId × FS) := fun k => [(84, nat_Norm.fs k)]
def fs (k : Nat) : FS := ⟨[tL, (.list (.int .i64))], [tZ], fun (x : LX × LX) => whole_signed.f k x.1 x.2⟩
theorem ok : FnO Tryz.prog 50 29 Tryz.f50 2 := okF _ (by kernel_rfl) (by kernel_rfl)
theorem c (k : Nat) : Contract Tryz.prog 50 (fs k) :=
  fnS [tL, (.list (.int .i64))] [tZ] ptL fns fgs0 fws0 (fun k (x : LX × LX) => whole_signed.f k x.1 x.2) ok ⟨⟨rfl, fun _ => rfl, fun k x => by kernel_rfl⟩, trivial⟩ (fun k x => by kernel_rfl) (fun k => ⟨⟨nat_Norm.c k, trivial⟩, trivial, trivial⟩) k
end whole_signed

namespace whole_Norm
def ptL : List (Pt (TD [tZ])) := []
def fns : Nat → List (FuncId × FS) := fun k => [(57, whole_Sign.fs k), (50, whole_signed.fs k)]
def fs (k : Nat) : FS := ⟨[tZ], [tZ], fun (x : ZX) => whole_Norm.f k x⟩
theorem ok : FnO Tryz.prog 64 9 Tryz.f64 1 := okF _ (by kernel_rfl) (by kernel_rfl)
theorem c (k : Nat) : Contract Tryz.prog 64 (fs k) :=
  fnS [tZ] [tZ] ptL fns fgs0 fws0 (fun k (x : ZX) => whole_Norm.f k x) ok trivial (fun k x => by kernel_rfl) (fun k => ⟨⟨whole_Sign.c k, whole_signed.c k, trivial⟩, trivial, trivial⟩) k
end whole_Norm

namespace ratio_made
def ptL : List (Pt (TD [tQ])) := []
def fns : Nat → List (FuncId × FS) := fun k => [(63, nat_Gcd.fs k), (27, nat_Div.fs k), (64, whole_Norm.fs k)]
def fs (k : Nat) : FS := ⟨[tZ, tL], [tQ], fun (x : ZX × LX) => ratio_made.f k x.1 x.2⟩
theorem ok : FnO Tryz.prog 28 38 Tryz.f28 2 := okF _ (by kernel_rfl) (by kernel_rfl)
theorem c (k : Nat) : Contract Tryz.prog 28 (fs k) :=
  fnS [tZ, tL] [tQ] ptL fns fgs0 fws0 (fun k (x : ZX × LX) => ratio_made.f k x.1 x.2) ok trivial (fun k x => by kernel_rfl) (fun k => ⟨⟨nat_Gcd.c k, nat_Div.c k, whole_Norm.c k, trivial⟩, trivial, trivial⟩) k
end ratio_made

namespace ratio_Norm
def ptL : List (Pt (TD [tQ])) := []
def fns : Nat → List (FuncId × FS) := fun k => [(16, nat_Bits.fs k), (28, ratio_made.fs k)]
def fs (k : Nat) : FS := ⟨[tQ], [tQ], fun (x : RX) => ratio_Norm.f k x⟩
theorem ok : FnO Tryz.prog 17 14 Tryz.f17 1 := okF _ (by kernel_rfl) (by kernel_rfl)
theorem c (k : Nat) : Contract Tryz.prog 17 (fs k) :=
  fnS [tQ] [tQ] ptL fns fgs0 fws0 (fun k (x : RX) => ratio_Norm.f k x) ok trivial (fun k x => by kernel_rfl) (fun k => ⟨⟨nat_Bits.c k, ratio_made.c k, trivial⟩, trivial, trivial⟩) k
end ratio_Norm

namespace nat_Of
def ptL : List (Pt (TD [tL])) := []
def fns : Nat → List (FuncId × FS) := fun k => [(59, nat_own.fs k)]
def fs (k : Nat) : FS := ⟨[(.int .u64)], [tL], fun (x : Int) => nat_Of.f k x⟩
theorem ok : FnO Tryz.prog 51 10 Tryz.f51 1 := okF _ (by kernel_rfl) (by kernel_rfl)
theorem c (k : Nat) : Contract Tryz.prog 51 (fs k) :=
  fnS [(.int .u64)] [tL] ptL fns fgs0 fws0 (fun k (x : Int) => nat_Of.f k x) ok trivial (fun k x => by kernel_rfl) (fun k => ⟨⟨nat_own.c k, trivial⟩, trivial, trivial⟩) k
end nat_Of

namespace whole_Of
def ptL : List (Pt (TD [tZ])) := []
def fns : Nat → List (FuncId × FS) := fun k => [(51, nat_Of.fs k), (50, whole_signed.fs k)]
def fs (k : Nat) : FS := ⟨[(.int .i64)], [tZ], fun (x : Int) => whole_Of.f k x⟩
theorem ok : FnO Tryz.prog 19 15 Tryz.f19 1 := okF _ (by kernel_rfl) (by kernel_rfl)
theorem c (k : Nat) : Contract Tryz.prog 19 (fs k) :=
  fnS [(.int .i64)] [tZ] ptL fns fgs0 fws0 (fun k (x : Int) => whole_Of.f k x) ok trivial (fun k x => by kernel_rfl) (fun k => ⟨⟨nat_Of.c k, whole_signed.c k, trivial⟩, trivial, trivial⟩) k
end whole_Of

namespace whole_Quo
def ptL : List (Pt (TD [tZ, tZ, (.int .i64)])) := []
def fns : Nat → List (FuncId × FS) := fun k => [(27, nat_Div.fs k), (57, whole_Sign.fs k), (50, whole_signed.fs k)]
def fs (k : Nat) : FS := ⟨[tZ, tZ], [tZ, tZ, (.int .i64)], fun (x : ZX × ZX) => whole_Quo.f k x.1 x.2⟩
theorem ok : FnO Tryz.prog 85 36 Tryz.f85 2 := okF _ (by kernel_rfl) (by kernel_rfl)
theorem c (k : Nat) : Contract Tryz.prog 85 (fs k) :=
  fnS [tZ, tZ] [tZ, tZ, (.int .i64)] ptL fns fgs0 fws0 (fun k (x : ZX × ZX) => whole_Quo.f k x.1 x.2) ok trivial (fun k x => by kernel_rfl) (fun k => ⟨⟨nat_Div.c k, whole_Sign.c k, whole_signed.c k, trivial⟩, trivial, trivial⟩) k
end whole_Quo

namespace nat_Add
def s7 : PSig := ⟨0, [], [(0, .val tL), (1, .val tL)]⟩
def s0 : PSig := ⟨0, [(43, (.int .u32), false)], [(0, .val tL), (1, .val tL), (5, .own 0), (6, .val (.int .u32)), (21, .val (.int .i64)), (22, .val (.int .i64))]⟩
def s23 : PSig := ⟨0, [(43, (.int .u32), false)], [(0, .val tL), (1, .val tL), (5, .own 0), (6, .val (.int .u32)), (7, .val (.int .i64)), (8, .val (.int .u32)), (21, .val (.int .i64)), (22, .val (.int .i64))]⟩
def ptL : List (Pt (TD [tL])) := [⟨7, s7, fun k (x : LX × LX) => nat_Add.p7 k x.1 x.2⟩, ⟨0, s0, fun k (x : LX × LX × LX × Int × Int × Int) => nat_Add.p0 k x.1 x.2.1 x.2.2.1 x.2.2.2.1 x.2.2.2.2.1 x.2.2.2.2.2⟩, ⟨23, s23, fun k (x : LX × LX × LX × Int × Int × Int × Int × Int) => nat_Add.p23 k x.1 x.2.1 x.2.2.1 x.2.2.2.1 x.2.2.2.2.1 x.2.2.2.2.2.1 x.2.2.2.2.2.2.1 x.2.2.2.2.2.2.2⟩]
def fns : Nat → List (FuncId × FS) := fun k => [(58, bits_Add32.fs k), (59, nat_own.fs k)]
def fs (k : Nat) : FS := ⟨[tL, tL], [tL], fun (x : LX × LX) => nat_Add.f k x.1 x.2⟩
theorem ok : FnO Tryz.prog 24 54 Tryz.f24 2 := okF _ (by kernel_rfl) (by kernel_rfl)
theorem c (k : Nat) : Contract Tryz.prog 24 (fs k) :=
  fnS [tL, tL] [tL] ptL fns fgs0 fws0 (fun k (x : LX × LX) => nat_Add.f k x.1 x.2) ok ⟨⟨rfl, fun _ => rfl, fun k x => by kernel_rfl⟩, ⟨rfl, fun _ => rfl, fun k x => by kernel_rfl⟩, ⟨rfl, fun _ => rfl, fun k x => by kernel_rfl⟩, trivial⟩ (fun k x => by kernel_rfl) (fun k => ⟨⟨bits_Add32.c k, nat_own.c k, trivial⟩, trivial, trivial⟩) k
end nat_Add

namespace nat_Sub
def s0 : PSig := ⟨0, [(43, (.int .u32), false)], [(0, .val tL), (1, .val tL), (6, .own 0), (7, .val (.int .u32)), (20, .val (.int .i64)), (21, .val (.int .i64))]⟩
def s25 : PSig := ⟨0, [(43, (.int .u32), false)], [(0, .val tL), (1, .val tL), (6, .own 0), (7, .val (.int .u32)), (8, .val (.int .i64)), (9, .val (.int .u32)), (20, .val (.int .i64)), (21, .val (.int .i64))]⟩
def ptL : List (Pt (TD [tL, (.int .i64)])) := [⟨0, s0, fun k (x : LX × LX × LX × Int × Int × Int) => nat_Sub.p0 k x.1 x.2.1 x.2.2.1 x.2.2.2.1 x.2.2.2.2.1 x.2.2.2.2.2⟩, ⟨25, s25, fun k (x : LX × LX × LX × Int × Int × Int × Int × Int) => nat_Sub.p25 k x.1 x.2.1 x.2.2.1 x.2.2.2.1 x.2.2.2.2.1 x.2.2.2.2.2.1 x.2.2.2.2.2.2.1 x.2.2.2.2.2.2.2⟩]
def fns : Nat → List (FuncId × FS) := fun k => [(18, nat_Cmp.fs k), (48, nat_trim.fs k), (60, bits_Sub32.fs k), (59, nat_own.fs k)]
def fs (k : Nat) : FS := ⟨[tL, tL], [tL, (.int .i64)], fun (x : LX × LX) => nat_Sub.f k x.1 x.2⟩
theorem ok : FnO Tryz.prog 26 48 Tryz.f26 2 := okF _ (by kernel_rfl) (by kernel_rfl)
theorem c (k : Nat) : Contract Tryz.prog 26 (fs k) :=
  fnS [tL, tL] [tL, (.int .i64)] ptL fns fgs0 fws0 (fun k (x : LX × LX) => nat_Sub.f k x.1 x.2) ok ⟨⟨rfl, fun _ => rfl, fun k x => by kernel_rfl⟩, ⟨rfl, fun _ => rfl, fun k x => by kernel_rfl⟩, trivial⟩ (fun k x => by kernel_rfl) (fun k => ⟨⟨nat_Cmp.c k, nat_trim.c k, bits_Sub32.c k, nat_own.c k, trivial⟩, trivial, trivial⟩) k
end nat_Sub

namespace whole_Add
def ptL : List (Pt (TD [tZ])) := []
def fns : Nat → List (FuncId × FS) := fun k => [(57, whole_Sign.fs k), (24, nat_Add.fs k), (50, whole_signed.fs k), (18, nat_Cmp.fs k), (26, nat_Sub.fs k)]
def fs (k : Nat) : FS := ⟨[tZ, tZ], [tZ], fun (x : ZX × ZX) => whole_Add.f k x.1 x.2⟩
theorem ok : FnO Tryz.prog 22 60 Tryz.f22 2 := okF _ (by kernel_rfl) (by kernel_rfl)
theorem c (k : Nat) : Contract Tryz.prog 22 (fs k) :=
  fnS [tZ, tZ] [tZ] ptL fns fgs0 fws0 (fun k (x : ZX × ZX) => whole_Add.f k x.1 x.2) ok trivial (fun k x => by kernel_rfl) (fun k => ⟨⟨whole_Sign.c k, nat_Add.c k, whole_signed.c k, nat_Cmp.c k, nat_Sub.c k, trivial⟩, trivial, trivial⟩) k
end whole_Add

namespace whole_Neg
def ptL : List (Pt (TD [tZ])) := []
def fns : Nat → List (FuncId × FS) := fun k => [(57, whole_Sign.fs k), (50, whole_signed.fs k)]
def fs (k : Nat) : FS := ⟨[tZ], [tZ], fun (x : ZX) => whole_Neg.f k x⟩
theorem ok : FnO Tryz.prog 109 9 Tryz.f109 1 := okF _ (by kernel_rfl) (by kernel_rfl)
theorem c (k : Nat) : Contract Tryz.prog 109 (fs k) :=
  fnS [tZ] [tZ] ptL fns fgs0 fws0 (fun k (x : ZX) => whole_Neg.f k x) ok trivial (fun k x => by kernel_rfl) (fun k => ⟨⟨whole_Sign.c k, whole_signed.c k, trivial⟩, trivial, trivial⟩) k
end whole_Neg

namespace whole_Sub
def ptL : List (Pt (TD [tZ])) := []
def fns : Nat → List (FuncId × FS) := fun k => [(109, whole_Neg.fs k), (22, whole_Add.fs k)]
def fs (k : Nat) : FS := ⟨[tZ, tZ], [tZ], fun (x : ZX × ZX) => whole_Sub.f k x.1 x.2⟩
theorem ok : FnO Tryz.prog 108 9 Tryz.f108 2 := okF _ (by kernel_rfl) (by kernel_rfl)
theorem c (k : Nat) : Contract Tryz.prog 108 (fs k) :=
  fnS [tZ, tZ] [tZ] ptL fns fgs0 fws0 (fun k (x : ZX × ZX) => whole_Sub.f k x.1 x.2) ok trivial (fun k x => by kernel_rfl) (fun k => ⟨⟨whole_Neg.c k, whole_Add.c k, trivial⟩, trivial, trivial⟩) k
end whole_Sub

namespace whole_moved
def ptL : List (Pt (TD [tZ, tZ, (.int .i64)])) := []
def fns : Nat → List (FuncId × FS) := fun k => [(57, whole_Sign.fs k), (19, whole_Of.fs k), (22, whole_Add.fs k), (108, whole_Sub.fs k)]
def fs (k : Nat) : FS := ⟨[tZ, tZ, tZ, .bool], [tZ, tZ, (.int .i64)], fun (x : ZX × ZX × ZX × Bool) => whole_moved.f k x.1 x.2.1 x.2.2.1 x.2.2.2⟩
theorem ok : FnO Tryz.prog 86 32 Tryz.f86 4 := okF _ (by kernel_rfl) (by kernel_rfl)
theorem c (k : Nat) : Contract Tryz.prog 86 (fs k) :=
  fnS [tZ, tZ, tZ, .bool] [tZ, tZ, (.int .i64)] ptL fns fgs0 fws0 (fun k (x : ZX × ZX × ZX × Bool) => whole_moved.f k x.1 x.2.1 x.2.2.1 x.2.2.2) ok trivial (fun k x => by kernel_rfl) (fun k => ⟨⟨whole_Sign.c k, whole_Of.c k, whole_Add.c k, whole_Sub.c k, trivial⟩, trivial, trivial⟩) k
end whole_moved

namespace whole_Floor
def ptL : List (Pt (TD [tZ, tZ, (.int .i64)])) := []
def fns : Nat → List (FuncId × FS) := fun k => [(85, whole_Quo.fs k), (57, whole_Sign.fs k), (86, whole_moved.fs k)]
def fs (k : Nat) : FS := ⟨[tZ, tZ], [tZ, tZ, (.int .i64)], fun (x : ZX × ZX) => whole_Floor.f k x.1 x.2⟩
theorem ok : FnO Tryz.prog 52 35 Tryz.f52 2 := okF _ (by kernel_rfl) (by kernel_rfl)
theorem c (k : Nat) : Contract Tryz.prog 52 (fs k) :=
  fnS [tZ, tZ] [tZ, tZ, (.int .i64)] ptL fns fgs0 fws0 (fun k (x : ZX × ZX) => whole_Floor.f k x.1 x.2) ok trivial (fun k x => by kernel_rfl) (fun k => ⟨⟨whole_Quo.c k, whole_Sign.c k, whole_moved.c k, trivial⟩, trivial, trivial⟩) k
end whole_Floor

namespace ratio_Floor
def ptL : List (Pt (TD [tZ])) := []
def fns : Nat → List (FuncId × FS) := fun k => [(17, ratio_Norm.fs k), (52, whole_Floor.fs k)]
def fs (k : Nat) : FS := ⟨[tQ], [tZ], fun (x : RX) => ratio_Floor.f k x⟩
theorem ok : FnO Tryz.prog 20 19 Tryz.f20 1 := okF _ (by kernel_rfl) (by kernel_rfl)
theorem c (k : Nat) : Contract Tryz.prog 20 (fs k) :=
  fnS [tQ] [tZ] ptL fns fgs0 fws0 (fun k (x : RX) => ratio_Floor.f k x) ok trivial (fun k x => by kernel_rfl) (fun k => ⟨⟨ratio_Norm.c k, whole_Floor.c k, trivial⟩, trivial, trivial⟩) k
end ratio_Floor

namespace ratio_of
def ptL : List (Pt (TD [tQ])) := []
def fns : Nat → List (FuncId × FS) := fun k => [(64, whole_Norm.fs k)]
def fs (k : Nat) : FS := ⟨[tZ], [tQ], fun (x : ZX) => ratio_of.f k x⟩
theorem ok : FnO Tryz.prog 56 7 Tryz.f56 1 := okF _ (by kernel_rfl) (by kernel_rfl)
theorem c (k : Nat) : Contract Tryz.prog 56 (fs k) :=
  fnS [tZ] [tQ] ptL fns fgs0 fws0 (fun k (x : ZX) => ratio_of.f k x) ok trivial (fun k x => by kernel_rfl) (fun k => ⟨⟨whole_Norm.c k, trivial⟩, trivial, trivial⟩) k
end ratio_of

namespace ratio_Neg
def ptL : List (Pt (TD [tQ])) := []
def fns : Nat → List (FuncId × FS) := fun k => [(17, ratio_Norm.fs k), (109, whole_Neg.fs k)]
def fs (k : Nat) : FS := ⟨[tQ], [tQ], fun (x : RX) => ratio_Neg.f k x⟩
theorem ok : FnO Tryz.prog 89 11 Tryz.f89 1 := okF _ (by kernel_rfl) (by kernel_rfl)
theorem c (k : Nat) : Contract Tryz.prog 89 (fs k) :=
  fnS [tQ] [tQ] ptL fns fgs0 fws0 (fun k (x : RX) => ratio_Neg.f k x) ok trivial (fun k x => by kernel_rfl) (fun k => ⟨⟨ratio_Norm.c k, whole_Neg.c k, trivial⟩, trivial, trivial⟩) k
end ratio_Neg

namespace nat_Mul
def s0 : PSig := ⟨0, [(43, (.int .u32), false)], [(0, .val tL), (1, .val tL), (5, .own 0), (21, .val (.int .i64)), (22, .val (.int .i64))]⟩
def s4 : PSig := ⟨0, [(43, (.int .u32), false)], [(0, .val tL), (1, .val tL), (5, .own 0), (6, .val (.int .i64)), (7, .val (.int .u64)), (21, .val (.int .i64)), (22, .val (.int .i64)), (26, .val (.int .i64)), (27, .val (.int .i64))]⟩
def ptL : List (Pt (TD [tL])) := [⟨0, s0, fun k (x : LX × LX × LX × Int × Int) => nat_Mul.p0 k x.1 x.2.1 x.2.2.1 x.2.2.2.1 x.2.2.2.2⟩, ⟨4, s4, fun k (x : LX × LX × LX × Int × Int × Int × Int × Int × Int) => nat_Mul.p4 k x.1 x.2.1 x.2.2.1 x.2.2.2.1 x.2.2.2.2.1 x.2.2.2.2.2.1 x.2.2.2.2.2.2.1 x.2.2.2.2.2.2.2.1 x.2.2.2.2.2.2.2.2⟩]
def fns : Nat → List (FuncId × FS) := fun k => [(48, nat_trim.fs k), (59, nat_own.fs k)]
def fs (k : Nat) : FS := ⟨[tL, tL], [tL], fun (x : LX × LX) => nat_Mul.f k x.1 x.2⟩
theorem ok : FnO Tryz.prog 25 72 Tryz.f25 2 := okF _ (by kernel_rfl) (by kernel_rfl)
theorem c (k : Nat) : Contract Tryz.prog 25 (fs k) :=
  fnS [tL, tL] [tL] ptL fns fgs0 fws0 (fun k (x : LX × LX) => nat_Mul.f k x.1 x.2) ok ⟨⟨rfl, fun _ => rfl, fun k x => by kernel_rfl⟩, ⟨rfl, fun _ => rfl, fun k x => by kernel_rfl⟩, trivial⟩ (fun k x => by kernel_rfl) (fun k => ⟨⟨nat_trim.c k, nat_own.c k, trivial⟩, trivial, trivial⟩) k
end nat_Mul

namespace whole_Mul
def ptL : List (Pt (TD [tZ])) := []
def fns : Nat → List (FuncId × FS) := fun k => [(25, nat_Mul.fs k), (57, whole_Sign.fs k), (50, whole_signed.fs k)]
def fs (k : Nat) : FS := ⟨[tZ, tZ], [tZ], fun (x : ZX × ZX) => whole_Mul.f k x.1 x.2⟩
theorem ok : FnO Tryz.prog 23 16 Tryz.f23 2 := okF _ (by kernel_rfl) (by kernel_rfl)
theorem c (k : Nat) : Contract Tryz.prog 23 (fs k) :=
  fnS [tZ, tZ] [tZ] ptL fns fgs0 fws0 (fun k (x : ZX × ZX) => whole_Mul.f k x.1 x.2) ok trivial (fun k x => by kernel_rfl) (fun k => ⟨⟨nat_Mul.c k, whole_Sign.c k, whole_signed.c k, trivial⟩, trivial, trivial⟩) k
end whole_Mul

namespace ratio_Add
def ptL : List (Pt (TD [tQ])) := []
def fns : Nat → List (FuncId × FS) := fun k => [(17, ratio_Norm.fs k), (23, whole_Mul.fs k), (22, whole_Add.fs k), (25, nat_Mul.fs k), (28, ratio_made.fs k)]
def fs (k : Nat) : FS := ⟨[tQ, tQ], [tQ], fun (x : RX × RX) => ratio_Add.f k x.1 x.2⟩
theorem ok : FnO Tryz.prog 88 30 Tryz.f88 2 := okF _ (by kernel_rfl) (by kernel_rfl)
theorem c (k : Nat) : Contract Tryz.prog 88 (fs k) :=
  fnS [tQ, tQ] [tQ] ptL fns fgs0 fws0 (fun k (x : RX × RX) => ratio_Add.f k x.1 x.2) ok trivial (fun k x => by kernel_rfl) (fun k => ⟨⟨ratio_Norm.c k, whole_Mul.c k, whole_Add.c k, nat_Mul.c k, ratio_made.c k, trivial⟩, trivial, trivial⟩) k
end ratio_Add

namespace ratio_Sub
def ptL : List (Pt (TD [tQ])) := []
def fns : Nat → List (FuncId × FS) := fun k => [(89, ratio_Neg.fs k), (88, ratio_Add.fs k)]
def fs (k : Nat) : FS := ⟨[tQ, tQ], [tQ], fun (x : RX × RX) => ratio_Sub.f k x.1 x.2⟩
theorem ok : FnO Tryz.prog 55 9 Tryz.f55 2 := okF _ (by kernel_rfl) (by kernel_rfl)
theorem c (k : Nat) : Contract Tryz.prog 55 (fs k) :=
  fnS [tQ, tQ] [tQ] ptL fns fgs0 fws0 (fun k (x : RX × RX) => ratio_Sub.f k x.1 x.2) ok trivial (fun k x => by kernel_rfl) (fun k => ⟨⟨ratio_Neg.c k, ratio_Add.c k, trivial⟩, trivial, trivial⟩) k
end ratio_Sub

namespace ratio_Of
def s11 : PSig := ⟨0, [(25, tZ, true), (25, tZ, true), (27, tQ, true)], [(2, .ptr 0 []), (3, .ptr 1 []), (4, .ptr 2 [])]⟩
def ptL : List (Pt (TD [tQ, (.int .i64)])) := [⟨11, s11, fun k (x : ZX × ZX × RX) => ratio_Of.p11 k x.1 x.2.1 x.2.2⟩]
def fns : Nat → List (FuncId × FS) := fun k => [(57, whole_Sign.fs k), (109, whole_Neg.fs k), (28, ratio_made.fs k)]
def fs (k : Nat) : FS := ⟨[tZ, tZ], [tQ, (.int .i64)], fun (x : ZX × ZX) => ratio_Of.f k x.1 x.2⟩
theorem ok : FnO Tryz.prog 87 19 Tryz.f87 2 := okF _ (by kernel_rfl) (by kernel_rfl)
theorem c (k : Nat) : Contract Tryz.prog 87 (fs k) :=
  fnS [tZ, tZ] [tQ, (.int .i64)] ptL fns fgs0 fws0 (fun k (x : ZX × ZX) => ratio_Of.f k x.1 x.2) ok ⟨⟨rfl, fun _ => rfl, fun k x => by kernel_rfl⟩, trivial⟩ (fun k x => by kernel_rfl) (fun k => ⟨⟨whole_Sign.c k, whole_Neg.c k, ratio_made.c k, trivial⟩, trivial, trivial⟩) k
end ratio_Of

namespace ratio_Inv
def ptL : List (Pt (TD [tQ, (.int .i64)])) := []
def fns : Nat → List (FuncId × FS) := fun k => [(17, ratio_Norm.fs k), (87, ratio_Of.fs k)]
def fs (k : Nat) : FS := ⟨[tQ], [tQ, (.int .i64)], fun (x : RX) => ratio_Inv.f k x⟩
theorem ok : FnO Tryz.prog 54 14 Tryz.f54 1 := okF _ (by kernel_rfl) (by kernel_rfl)
theorem c (k : Nat) : Contract Tryz.prog 54 (fs k) :=
  fnS [tQ] [tQ, (.int .i64)] ptL fns fgs0 fws0 (fun k (x : RX) => ratio_Inv.f k x) ok trivial (fun k x => by kernel_rfl) (fun k => ⟨⟨ratio_Norm.c k, ratio_Of.c k, trivial⟩, trivial, trivial⟩) k
end ratio_Inv

namespace ratio_Sign
def ptL : List (Pt (TD [(.int .i64)])) := []
def fns : Nat → List (FuncId × FS) := fun k => [(17, ratio_Norm.fs k), (57, whole_Sign.fs k)]
def fs (k : Nat) : FS := ⟨[tQ], [(.int .i64)], fun (x : RX) => ratio_Sign.f k x⟩
theorem ok : FnO Tryz.prog 96 7 Tryz.f96 1 := okF _ (by kernel_rfl) (by kernel_rfl)
theorem c (k : Nat) : Contract Tryz.prog 96 (fs k) :=
  fnS [tQ] [(.int .i64)] ptL fns fgs0 fws0 (fun k (x : RX) => ratio_Sign.f k x) ok trivial (fun k x => by kernel_rfl) (fun k => ⟨⟨ratio_Norm.c k, whole_Sign.c k, trivial⟩, trivial, trivial⟩) k
end ratio_Sign

namespace ratio_Abs
def ptL : List (Pt (TD [tQ])) := []
def fns : Nat → List (FuncId × FS) := fun k => [(96, ratio_Sign.fs k), (89, ratio_Neg.fs k), (17, ratio_Norm.fs k)]
def fs (k : Nat) : FS := ⟨[tQ], [tQ], fun (x : RX) => ratio_Abs.f k x⟩
theorem ok : FnO Tryz.prog 66 10 Tryz.f66 1 := okF _ (by kernel_rfl) (by kernel_rfl)
theorem c (k : Nat) : Contract Tryz.prog 66 (fs k) :=
  fnS [tQ] [tQ] ptL fns fgs0 fws0 (fun k (x : RX) => ratio_Abs.f k x) ok trivial (fun k x => by kernel_rfl) (fun k => ⟨⟨ratio_Sign.c k, ratio_Neg.c k, ratio_Norm.c k, trivial⟩, trivial, trivial⟩) k
end ratio_Abs

namespace whole_Cmp
def ptL : List (Pt (TD [(.int .i64)])) := []
def fns : Nat → List (FuncId × FS) := fun k => [(108, whole_Sub.fs k), (57, whole_Sign.fs k)]
def fs (k : Nat) : FS := ⟨[tZ, tZ], [(.int .i64)], fun (x : ZX × ZX) => whole_Cmp.f k x.1 x.2⟩
theorem ok : FnO Tryz.prog 95 9 Tryz.f95 2 := okF _ (by kernel_rfl) (by kernel_rfl)
theorem c (k : Nat) : Contract Tryz.prog 95 (fs k) :=
  fnS [tZ, tZ] [(.int .i64)] ptL fns fgs0 fws0 (fun k (x : ZX × ZX) => whole_Cmp.f k x.1 x.2) ok trivial (fun k x => by kernel_rfl) (fun k => ⟨⟨whole_Sub.c k, whole_Sign.c k, trivial⟩, trivial, trivial⟩) k
end whole_Cmp

namespace ratio_Cmp
def ptL : List (Pt (TD [(.int .i64)])) := []
def fns : Nat → List (FuncId × FS) := fun k => [(17, ratio_Norm.fs k), (23, whole_Mul.fs k), (95, whole_Cmp.fs k)]
def fs (k : Nat) : FS := ⟨[tQ, tQ], [(.int .i64)], fun (x : RX × RX) => ratio_Cmp.f k x.1 x.2⟩
theorem ok : FnO Tryz.prog 65 22 Tryz.f65 2 := okF _ (by kernel_rfl) (by kernel_rfl)
theorem c (k : Nat) : Contract Tryz.prog 65 (fs k) :=
  fnS [tQ, tQ] [(.int .i64)] ptL fns fgs0 fws0 (fun k (x : RX × RX) => ratio_Cmp.f k x.1 x.2) ok trivial (fun k x => by kernel_rfl) (fun k => ⟨⟨ratio_Norm.c k, whole_Mul.c k, whole_Cmp.c k, trivial⟩, trivial, trivial⟩) k
end ratio_Cmp

namespace ratio_nearer
def s9 : PSig := ⟨0, [(27, tQ, true), (27, tQ, true), (27, tQ, true)], [(4, .ptr 0 []), (5, .ptr 1 []), (6, .ptr 2 []), (7, .val (.int .i64))]⟩
def s13 : PSig := ⟨0, [(27, tQ, true), (27, tQ, true), (27, tQ, true)], [(4, .ptr 0 []), (5, .ptr 1 []), (6, .ptr 2 []), (7, .val (.int .i64))]⟩
def ptL : List (Pt (TD [tQ])) := [⟨9, s9, fun k (x : RX × RX × RX × Int) => ratio_nearer.p9 k x.1 x.2.1 x.2.2.1 x.2.2.2⟩, ⟨13, s13, fun k (x : RX × RX × RX × Int) => ratio_nearer.p13 k x.1 x.2.1 x.2.2.1 x.2.2.2⟩]
def fns : Nat → List (FuncId × FS) := fun k => [(55, ratio_Sub.fs k), (66, ratio_Abs.fs k), (65, ratio_Cmp.fs k), (18, nat_Cmp.fs k)]
def fs (k : Nat) : FS := ⟨[tQ, tQ, tQ], [tQ], fun (x : RX × RX × RX) => ratio_nearer.f k x.1 x.2.1 x.2.2⟩
theorem ok : FnO Tryz.prog 29 33 Tryz.f29 3 := okF _ (by kernel_rfl) (by kernel_rfl)
theorem c (k : Nat) : Contract Tryz.prog 29 (fs k) :=
  fnS [tQ, tQ, tQ] [tQ] ptL fns fgs0 fws0 (fun k (x : RX × RX × RX) => ratio_nearer.f k x.1 x.2.1 x.2.2) ok ⟨⟨rfl, fun _ => rfl, fun k x => by kernel_rfl⟩, ⟨rfl, fun _ => rfl, fun k x => by kernel_rfl⟩, trivial⟩ (fun k x => by kernel_rfl) (fun k => ⟨⟨ratio_Sub.c k, ratio_Abs.c k, ratio_Cmp.c k, nat_Cmp.c k, trivial⟩, trivial, trivial⟩) k
end ratio_nearer

namespace ratio_Best
theorem c (k : Nat) : Contract Tryz.prog 5 ⟨[ptQ, ptNt], [ptQ, .int .i64], fun (x : RX × List Int) => ratio_Best.f k x.1 x.2⟩ := best_contract (F := ratio_Best.fs) (fl := ratio_Floor.f) (fo := ratio_of.f) (fs := fun k x => ratio_Sub.f k x.1 x.2) (fi := ratio_Inv.f) ⟨ratio_Floor.c, ratio_of.c, ratio_Sub.c, ratio_Inv.c⟩ ⟨nat_Bits.c, ratio_Norm.c, nat_Cmp.c, whole_Of.c, ratio_Floor.c, whole_Add.c, whole_Mul.c, nat_Add.c, nat_Mul.c, nat_Sub.c, nat_Div.c, ratio_made.c, ratio_nearer.c⟩ k
end ratio_Best

namespace ref01_Norm
def s0 : PSig := ⟨0, [], [(0, .val tL), (3, .val (.int .i64))]⟩
def s9 : PSig := ⟨0, [], [(0, .val tL), (3, .val (.int .i64))]⟩
def s4 : PSig := ⟨0, [(43, (.int .u32), false)], [(0, .val tL), (3, .val (.int .i64)), (4, .own 0), (5, .val (.int .i64))]⟩
def ptL : List (Pt (TD [tL])) := [⟨0, s0, fun k (x : LX × Int) => ref01_Norm.p0 k x.1 x.2⟩, ⟨9, s9, fun k (x : LX × Int) => ref01_Norm.p9 k x.1 x.2⟩, ⟨4, s4, fun k (x : LX × LX × Int × Int) => ref01_Norm.p4 k x.1 x.2.1 x.2.2.1 x.2.2.2⟩]
def fs (k : Nat) : FS := ⟨[tL], [tL], fun (x : LX) => ref01_Norm.f k x⟩
theorem ok : FnO Tryz.prog 12 35 Tryz.f12 1 := okF _ (by kernel_rfl) (by kernel_rfl)
theorem c (k : Nat) : Contract Tryz.prog 12 (fs k) :=
  fnS [tL] [tL] ptL fns0 fgs0 fws0 (fun k (x : LX) => ref01_Norm.f k x) ok ⟨⟨rfl, fun _ => rfl, fun k x => by kernel_rfl⟩, ⟨rfl, fun _ => rfl, fun k x => by kernel_rfl⟩, ⟨rfl, fun _ => rfl, fun k x => by kernel_rfl⟩, trivial⟩ (fun k x => by kernel_rfl) (fun _ => ⟨trivial, trivial, trivial⟩) k
end ref01_Norm

namespace ref02_made
def ptL : List (Pt (TD [tZ])) := []
def fns : Nat → List (FuncId × FS) := fun k => [(12, ref01_Norm.fs k)]
def fs (k : Nat) : FS := ⟨[.bool, tL], [tZ], fun (x : Bool × LX) => ref02_made.f k x.1 x.2⟩
theorem ok : FnO Tryz.prog 71 16 Tryz.f71 2 := okF _ (by kernel_rfl) (by kernel_rfl)
theorem c (k : Nat) : Contract Tryz.prog 71 (fs k) :=
  fnS [.bool, tL] [tZ] ptL fns fgs0 fws0 (fun k (x : Bool × LX) => ref02_made.f k x.1 x.2) ok trivial (fun k x => by kernel_rfl) (fun k => ⟨⟨ref01_Norm.c k, trivial⟩, trivial, trivial⟩) k
end ref02_made

namespace ref02_Norm
def ptL : List (Pt (TD [tZ])) := []
def fns : Nat → List (FuncId × FS) := fun k => [(71, ref02_made.fs k)]
def fs (k : Nat) : FS := ⟨[tZ], [tZ], fun (x : ZX) => ref02_Norm.f k x⟩
theorem ok : FnO Tryz.prog 42 8 Tryz.f42 1 := okF _ (by kernel_rfl) (by kernel_rfl)
theorem c (k : Nat) : Contract Tryz.prog 42 (fs k) :=
  fnS [tZ] [tZ] ptL fns fgs0 fws0 (fun k (x : ZX) => ref02_Norm.f k x) ok trivial (fun k x => by kernel_rfl) (fun k => ⟨⟨ref02_made.c k, trivial⟩, trivial, trivial⟩) k
end ref02_Norm

namespace ref01_at
def ptL : List (Pt (TD [(.int .u64)])) := []
def fs (k : Nat) : FS := ⟨[tL, (.int .i64)], [(.int .u64)], fun (x : LX × Int) => ref01_at.f k x.1 x.2⟩
theorem ok : FnO Tryz.prog 44 14 Tryz.f44 2 := okF _ (by kernel_rfl) (by kernel_rfl)
theorem c (k : Nat) : Contract Tryz.prog 44 (fs k) :=
  fnS [tL, (.int .i64)] [(.int .u64)] ptL fns0 fgs0 fws0 (fun k (x : LX × Int) => ref01_at.f k x.1 x.2) ok trivial (fun k x => by kernel_rfl) (fun _ => ⟨trivial, trivial, trivial⟩) k
end ref01_at

namespace ref01_Cmp
def s9 : PSig := ⟨0, [], [(0, .val tL), (1, .val tL), (5, .val (.int .i64))]⟩
def s0 : PSig := ⟨0, [], [(0, .val tL), (1, .val tL), (6, .val (.int .i64))]⟩
def ptL : List (Pt (TD [(.int .i64)])) := [⟨9, s9, fun k (x : LX × LX × Int) => ref01_Cmp.p9 k x.1 x.2.1 x.2.2⟩, ⟨0, s0, fun k (x : LX × LX × Int) => ref01_Cmp.p0 k x.1 x.2.1 x.2.2⟩]
def fns : Nat → List (FuncId × FS) := fun k => [(44, ref01_at.fs k)]
def fs (k : Nat) : FS := ⟨[tL, tL], [(.int .i64)], fun (x : LX × LX) => ref01_Cmp.f k x.1 x.2⟩
theorem ok : FnO Tryz.prog 14 35 Tryz.f14 2 := okF _ (by kernel_rfl) (by kernel_rfl)
theorem c (k : Nat) : Contract Tryz.prog 14 (fs k) :=
  fnS [tL, tL] [(.int .i64)] ptL fns fgs0 fws0 (fun k (x : LX × LX) => ref01_Cmp.f k x.1 x.2) ok ⟨⟨rfl, fun _ => rfl, fun k x => by kernel_rfl⟩, ⟨rfl, fun _ => rfl, fun k x => by kernel_rfl⟩, trivial⟩ (fun k x => by kernel_rfl) (fun k => ⟨⟨ref01_at.c k, trivial⟩, trivial, trivial⟩) k
end ref01_Cmp

namespace ref01_Bit
def ptL : List (Pt (TD [.bool])) := []
def fs (k : Nat) : FS := ⟨[tL, (.int .i64)], [.bool], fun (x : LX × Int) => ref01_Bit.f k x.1 x.2⟩
theorem ok : FnO Tryz.prog 74 27 Tryz.f74 2 := okF _ (by kernel_rfl) (by kernel_rfl)
theorem c (k : Nat) : Contract Tryz.prog 74 (fs k) :=
  fnS [tL, (.int .i64)] [.bool] ptL fns0 fgs0 fws0 (fun k (x : LX × Int) => ref01_Bit.f k x.1 x.2) ok trivial (fun k x => by kernel_rfl) (fun _ => ⟨trivial, trivial, trivial⟩) k
end ref01_Bit

namespace ref01_Shift
def s5 : PSig := ⟨0, [], []⟩
def s17 : PSig := ⟨0, [], [(0, .val tL), (1, .val (.int .i64)), (6, .val (.int .i64))]⟩
def s29 : PSig := ⟨0, [(43, (.int .u32), false)], [(0, .val tL), (6, .val (.int .i64)), (7, .own 0), (8, .val (.int .i64)), (9, .val (.int .i64))]⟩
def s0 : PSig := ⟨0, [(43, (.int .u32), false)], [(0, .val tL), (6, .val (.int .i64)), (7, .own 0), (8, .val (.int .i64)), (9, .val (.int .i64)), (10, .val (.int .i64))]⟩
def s41 : PSig := ⟨0, [(43, (.int .u32), false)], [(0, .val tL), (6, .val (.int .i64)), (7, .own 0), (8, .val (.int .i64)), (9, .val (.int .i64)), (10, .val (.int .i64)), (11, .val (.int .u64))]⟩
def s33 : PSig := ⟨0, [(43, (.int .u32), false)], [(0, .val tL), (6, .val (.int .i64)), (7, .own 0), (8, .val (.int .i64)), (9, .val (.int .i64)), (10, .val (.int .i64))]⟩
def ptL : List (Pt (TD [tL, (.int .i64)])) := [⟨5, s5, fun k (x : Unit) => ref01_Shift.p5 k x⟩, ⟨17, s17, fun k (x : LX × Int × Int) => ref01_Shift.p17 k x.1 x.2.1 x.2.2⟩, ⟨29, s29, fun k (x : LX × LX × Int × Int × Int) => ref01_Shift.p29 k x.1 x.2.1 x.2.2.1 x.2.2.2.1 x.2.2.2.2⟩, ⟨0, s0, fun k (x : LX × LX × Int × Int × Int × Int) => ref01_Shift.p0 k x.1 x.2.1 x.2.2.1 x.2.2.2.1 x.2.2.2.2.1 x.2.2.2.2.2⟩, ⟨41, s41, fun k (x : LX × LX × Int × Int × Int × Int × Int) => ref01_Shift.p41 k x.1 x.2.1 x.2.2.1 x.2.2.2.1 x.2.2.2.2.1 x.2.2.2.2.2.1 x.2.2.2.2.2.2⟩, ⟨33, s33, fun k (x : LX × LX × Int × Int × Int × Int) => ref01_Shift.p33 k x.1 x.2.1 x.2.2.1 x.2.2.2.1 x.2.2.2.2.1 x.2.2.2.2.2⟩]
def fns : Nat → List (FuncId × FS) := fun k => [(12, ref01_Norm.fs k)]
def fs (k : Nat) : FS := ⟨[tL, (.int .i64)], [tL, (.int .i64)], fun (x : LX × Int) => ref01_Shift.f k x.1 x.2⟩
theorem ok : FnO Tryz.prog 81 106 Tryz.f81 2 := okF _ (by kernel_rfl) (by kernel_rfl)
theorem c (k : Nat) : Contract Tryz.prog 81 (fs k) :=
  fnS [tL, (.int .i64)] [tL, (.int .i64)] ptL fns fgs0 fws0 (fun k (x : LX × Int) => ref01_Shift.f k x.1 x.2) ok ⟨⟨rfl, fun _ => rfl, fun k x => by kernel_rfl⟩, ⟨rfl, fun _ => rfl, fun k x => by kernel_rfl⟩, ⟨rfl, fun _ => rfl, fun k x => by kernel_rfl⟩, ⟨rfl, fun _ => rfl, fun k x => by kernel_rfl⟩, ⟨rfl, fun _ => rfl, fun k x => by kernel_rfl⟩, ⟨rfl, fun _ => rfl, fun k x => by kernel_rfl⟩, trivial⟩ (fun k x => by kernel_rfl) (fun k => ⟨⟨ref01_Norm.c k, trivial⟩, trivial, trivial⟩) k
end ref01_Shift

namespace ref01_Sub
def s0 : PSig := ⟨0, [(43, (.int .u32), false)], [(0, .val tL), (1, .val tL), (6, .own 0), (7, .val (.int .u64)), (8, .val (.int .i64))]⟩
def ptL : List (Pt (TD [tL, (.int .i64)])) := [⟨0, s0, fun k (x : LX × LX × LX × Int × Int) => ref01_Sub.p0 k x.1 x.2.1 x.2.2.1 x.2.2.2.1 x.2.2.2.2⟩]
def fns : Nat → List (FuncId × FS) := fun k => [(14, ref01_Cmp.fs k), (44, ref01_at.fs k), (12, ref01_Norm.fs k)]
def fs (k : Nat) : FS := ⟨[tL, tL], [tL, (.int .i64)], fun (x : LX × LX) => ref01_Sub.f k x.1 x.2⟩
theorem ok : FnO Tryz.prog 37 41 Tryz.f37 2 := okF _ (by kernel_rfl) (by kernel_rfl)
theorem c (k : Nat) : Contract Tryz.prog 37 (fs k) :=
  fnS [tL, tL] [tL, (.int .i64)] ptL fns fgs0 fws0 (fun k (x : LX × LX) => ref01_Sub.f k x.1 x.2) ok ⟨⟨rfl, fun _ => rfl, fun k x => by kernel_rfl⟩, trivial⟩ (fun k x => by kernel_rfl) (fun k => ⟨⟨ref01_Cmp.c k, ref01_at.c k, ref01_Norm.c k, trivial⟩, trivial, trivial⟩) k
end ref01_Sub

namespace ref01_twice
def s11 : PSig := ⟨0, [(43, (.int .u32), false)], [(0, .val tL), (5, .own 0), (6, .val (.int .u32))]⟩
def s0 : PSig := ⟨0, [(43, (.int .u32), false)], [(0, .val tL), (5, .own 0), (6, .val (.int .u32)), (7, .val (.int .i64))]⟩
def ptL : List (Pt (TD [tL])) := [⟨11, s11, fun k (x : LX × LX × Int) => ref01_twice.p11 k x.1 x.2.1 x.2.2⟩, ⟨0, s0, fun k (x : LX × LX × Int × Int) => ref01_twice.p0 k x.1 x.2.1 x.2.2.1 x.2.2.2⟩]
def fns : Nat → List (FuncId × FS) := fun k => [(12, ref01_Norm.fs k)]
def fs (k : Nat) : FS := ⟨[tL, .bool], [tL], fun (x : LX × Bool) => ref01_twice.f k x.1 x.2⟩
theorem ok : FnO Tryz.prog 73 41 Tryz.f73 2 := okF _ (by kernel_rfl) (by kernel_rfl)
theorem c (k : Nat) : Contract Tryz.prog 73 (fs k) :=
  fnS [tL, .bool] [tL] ptL fns fgs0 fws0 (fun k (x : LX × Bool) => ref01_twice.f k x.1 x.2) ok ⟨⟨rfl, fun _ => rfl, fun k x => by kernel_rfl⟩, ⟨rfl, fun _ => rfl, fun k x => by kernel_rfl⟩, trivial⟩ (fun k x => by kernel_rfl) (fun k => ⟨⟨ref01_Norm.c k, trivial⟩, trivial, trivial⟩) k
end ref01_twice

namespace ref01_Gcd
def s19 : PSig := ⟨0, [], [(5, .val tL)]⟩
def s0 : PSig := ⟨0, [], [(0, .val tL), (1, .val tL), (6, .val (.int .i64))]⟩
def s4 : PSig := ⟨0, [], [(0, .val tL), (1, .val tL), (6, .val (.int .i64))]⟩
def s8 : PSig := ⟨0, [], [(0, .val tL), (1, .val tL), (6, .val (.int .i64))]⟩
def s16 : PSig := ⟨0, [], [(0, .val tL), (6, .val (.int .i64)), (7, .val (.int .i64))]⟩
def s12 : PSig := ⟨0, [], [(0, .val tL), (1, .val tL), (6, .val (.int .i64))]⟩
def s45 : PSig := ⟨0, [], [(0, .val tL), (1, .val tL), (6, .val (.int .i64))]⟩
def ptL : List (Pt (TD [tL])) := [⟨19, s19, fun k (x : LX) => ref01_Gcd.p19 k x⟩, ⟨0, s0, fun k (x : LX × LX × Int) => ref01_Gcd.p0 k x.1 x.2.1 x.2.2⟩, ⟨4, s4, fun k (x : LX × LX × Int) => ref01_Gcd.p4 k x.1 x.2.1 x.2.2⟩, ⟨8, s8, fun k (x : LX × LX × Int) => ref01_Gcd.p8 k x.1 x.2.1 x.2.2⟩, ⟨16, s16, fun k (x : LX × Int × Int) => ref01_Gcd.p16 k x.1 x.2.1 x.2.2⟩, ⟨12, s12, fun k (x : LX × LX × Int) => ref01_Gcd.p12 k x.1 x.2.1 x.2.2⟩, ⟨45, s45, fun k (x : LX × LX × Int) => ref01_Gcd.p45 k x.1 x.2.1 x.2.2⟩]
def fns : Nat → List (FuncId × FS) := fun k => [(12, ref01_Norm.fs k), (14, ref01_Cmp.fs k), (74, ref01_Bit.fs k), (81, ref01_Shift.fs k), (73, ref01_twice.fs k), (37, ref01_Sub.fs k)]
def fs (k : Nat) : FS := ⟨[tL, tL], [tL], fun (x : LX × LX) => ref01_Gcd.f k x.1 x.2⟩
theorem ok : FnO Tryz.prog 43 91 Tryz.f43 2 := okF _ (by kernel_rfl) (by kernel_rfl)
theorem c (k : Nat) : Contract Tryz.prog 43 (fs k) :=
  fnS [tL, tL] [tL] ptL fns fgs0 fws0 (fun k (x : LX × LX) => ref01_Gcd.f k x.1 x.2) ok ⟨⟨rfl, fun _ => rfl, fun k x => by kernel_rfl⟩, ⟨rfl, fun _ => rfl, fun k x => by kernel_rfl⟩, ⟨rfl, fun _ => rfl, fun k x => by kernel_rfl⟩, ⟨rfl, fun _ => rfl, fun k x => by kernel_rfl⟩, ⟨rfl, fun _ => rfl, fun k x => by kernel_rfl⟩, ⟨rfl, fun _ => rfl, fun k x => by kernel_rfl⟩, ⟨rfl, fun _ => rfl, fun k x => by kernel_rfl⟩, trivial⟩ (fun k x => by kernel_rfl) (fun k => ⟨⟨ref01_Norm.c k, ref01_Cmp.c k, ref01_Bit.c k, ref01_Shift.c k, ref01_twice.c k, ref01_Sub.c k, trivial⟩, trivial, trivial⟩) k
end ref01_Gcd

namespace ref01_Div
def s19 : PSig := ⟨0, [(43, (.int .u32), false)], [(0, .val tL), (1, .val tL), (7, .own 0), (8, .val (.int .i64))]⟩
def s0 : PSig := ⟨0, [(43, (.int .u32), false)], [(0, .val tL), (1, .val tL), (7, .own 0), (9, .val tL), (10, .val (.int .i64))]⟩
def s25 : PSig := ⟨0, [(43, (.int .u32), false)], [(0, .val tL), (1, .val tL), (7, .own 0), (9, .val tL), (10, .val (.int .i64))]⟩
def ptL : List (Pt (TD [tL, tL, (.int .i64)])) := [⟨19, s19, fun k (x : LX × LX × LX × Int) => ref01_Div.p19 k x.1 x.2.1 x.2.2.1 x.2.2.2⟩, ⟨0, s0, fun k (x : LX × LX × LX × LX × Int) => ref01_Div.p0 k x.1 x.2.1 x.2.2.1 x.2.2.2.1 x.2.2.2.2⟩, ⟨25, s25, fun k (x : LX × LX × LX × LX × Int) => ref01_Div.p25 k x.1 x.2.1 x.2.2.1 x.2.2.2.1 x.2.2.2.2⟩]
def fns : Nat → List (FuncId × FS) := fun k => [(12, ref01_Norm.fs k), (74, ref01_Bit.fs k), (73, ref01_twice.fs k), (14, ref01_Cmp.fs k), (37, ref01_Sub.fs k)]
def fs (k : Nat) : FS := ⟨[tL, tL], [tL, tL, (.int .i64)], fun (x : LX × LX) => ref01_Div.f k x.1 x.2⟩
theorem ok : FnO Tryz.prog 38 76 Tryz.f38 2 := okF _ (by kernel_rfl) (by kernel_rfl)
theorem c (k : Nat) : Contract Tryz.prog 38 (fs k) :=
  fnS [tL, tL] [tL, tL, (.int .i64)] ptL fns fgs0 fws0 (fun k (x : LX × LX) => ref01_Div.f k x.1 x.2) ok ⟨⟨rfl, fun _ => rfl, fun k x => by kernel_rfl⟩, ⟨rfl, fun _ => rfl, fun k x => by kernel_rfl⟩, ⟨rfl, fun _ => rfl, fun k x => by kernel_rfl⟩, trivial⟩ (fun k x => by kernel_rfl) (fun k => ⟨⟨ref01_Norm.c k, ref01_Bit.c k, ref01_twice.c k, ref01_Cmp.c k, ref01_Sub.c k, trivial⟩, trivial, trivial⟩) k
end ref01_Div

namespace ref03_Norm
def s9 : PSig := ⟨0, [(27, tQ, true)], [(2, .ptr 0 [])]⟩
def ptL : List (Pt (TD [tQ])) := [⟨9, s9, fun k (x : RX) => ref03_Norm.p9 k x⟩]
def fns : Nat → List (FuncId × FS) := fun k => [(42, ref02_Norm.fs k), (12, ref01_Norm.fs k), (43, ref01_Gcd.fs k), (38, ref01_Div.fs k)]
def fs (k : Nat) : FS := ⟨[tQ], [tQ], fun (x : RX) => ref03_Norm.f k x⟩
theorem ok : FnO Tryz.prog 13 55 Tryz.f13 1 := okF _ (by kernel_rfl) (by kernel_rfl)
theorem c (k : Nat) : Contract Tryz.prog 13 (fs k) :=
  fnS [tQ] [tQ] ptL fns fgs0 fws0 (fun k (x : RX) => ref03_Norm.f k x) ok ⟨⟨rfl, fun _ => rfl, fun k x => by kernel_rfl⟩, trivial⟩ (fun k x => by kernel_rfl) (fun k => ⟨⟨ref02_Norm.c k, ref01_Norm.c k, ref01_Gcd.c k, ref01_Div.c k, trivial⟩, trivial, trivial⟩) k
end ref03_Norm

namespace ref03_positive
def ptL : List (Pt (TD [tZ])) := []
def fs (k : Nat) : FS := ⟨[tL], [tZ], fun (x : LX) => ref03_positive.f k x⟩
theorem ok : FnO Tryz.prog 39 5 Tryz.f39 1 := okF _ (by kernel_rfl) (by kernel_rfl)
theorem c (k : Nat) : Contract Tryz.prog 39 (fs k) :=
  fnS [tL] [tZ] ptL fns0 fgs0 fws0 (fun k (x : LX) => ref03_positive.f k x) ok trivial (fun k x => by kernel_rfl) (fun _ => ⟨trivial, trivial, trivial⟩) k
end ref03_positive

namespace ref02_Sign
def ptL : List (Pt (TD [(.int .i64)])) := []
def fns : Nat → List (FuncId × FS) := fun k => [(42, ref02_Norm.fs k)]
def fs (k : Nat) : FS := ⟨[tZ], [(.int .i64)], fun (x : ZX) => ref02_Sign.f k x⟩
theorem ok : FnO Tryz.prog 98 12 Tryz.f98 1 := okF _ (by kernel_rfl) (by kernel_rfl)
theorem c (k : Nat) : Contract Tryz.prog 98 (fs k) :=
  fnS [tZ] [(.int .i64)] ptL fns fgs0 fws0 (fun k (x : ZX) => ref02_Sign.f k x) ok trivial (fun k x => by kernel_rfl) (fun k => ⟨⟨ref02_Norm.c k, trivial⟩, trivial, trivial⟩) k
end ref02_Sign

namespace ref02_Quo
def ptL : List (Pt (TD [tZ, tZ, (.int .i64)])) := []
def fns : Nat → List (FuncId × FS) := fun k => [(98, ref02_Sign.fs k), (38, ref01_Div.fs k), (71, ref02_made.fs k)]
def fs (k : Nat) : FS := ⟨[tZ, tZ], [tZ, tZ, (.int .i64)], fun (x : ZX × ZX) => ref02_Quo.f k x.1 x.2⟩
theorem ok : FnO Tryz.prog 110 35 Tryz.f110 2 := okF _ (by kernel_rfl) (by kernel_rfl)
theorem c (k : Nat) : Contract Tryz.prog 110 (fs k) :=
  fnS [tZ, tZ] [tZ, tZ, (.int .i64)] ptL fns fgs0 fws0 (fun k (x : ZX × ZX) => ref02_Quo.f k x.1 x.2) ok trivial (fun k x => by kernel_rfl) (fun k => ⟨⟨ref02_Sign.c k, ref01_Div.c k, ref02_made.c k, trivial⟩, trivial, trivial⟩) k
end ref02_Quo

namespace ref01_Of
def ptL : List (Pt (TD [tL])) := []
def fns : Nat → List (FuncId × FS) := fun k => [(12, ref01_Norm.fs k)]
def fs (k : Nat) : FS := ⟨[(.int .u64)], [tL], fun (x : Int) => ref01_Of.f k x⟩
theorem ok : FnO Tryz.prog 72 10 Tryz.f72 1 := okF _ (by kernel_rfl) (by kernel_rfl)
theorem c (k : Nat) : Contract Tryz.prog 72 (fs k) :=
  fnS [(.int .u64)] [tL] ptL fns fgs0 fws0 (fun k (x : Int) => ref01_Of.f k x) ok trivial (fun k x => by kernel_rfl) (fun k => ⟨⟨ref01_Norm.c k, trivial⟩, trivial, trivial⟩) k
end ref01_Of

namespace ref02_Of
def ptL : List (Pt (TD [tZ])) := []
def fns : Nat → List (FuncId × FS) := fun k => [(72, ref01_Of.fs k), (71, ref02_made.fs k)]
def fs (k : Nat) : FS := ⟨[(.int .i64)], [tZ], fun (x : Int) => ref02_Of.f k x⟩
theorem ok : FnO Tryz.prog 32 14 Tryz.f32 1 := okF _ (by kernel_rfl) (by kernel_rfl)
theorem c (k : Nat) : Contract Tryz.prog 32 (fs k) :=
  fnS [(.int .i64)] [tZ] ptL fns fgs0 fws0 (fun k (x : Int) => ref02_Of.f k x) ok trivial (fun k x => by kernel_rfl) (fun k => ⟨⟨ref01_Of.c k, ref02_made.c k, trivial⟩, trivial, trivial⟩) k
end ref02_Of

namespace ref02_Neg
def ptL : List (Pt (TD [tZ])) := []
def fns : Nat → List (FuncId × FS) := fun k => [(71, ref02_made.fs k)]
def fs (k : Nat) : FS := ⟨[tZ], [tZ], fun (x : ZX) => ref02_Neg.f k x⟩
theorem ok : FnO Tryz.prog 107 9 Tryz.f107 1 := okF _ (by kernel_rfl) (by kernel_rfl)
theorem c (k : Nat) : Contract Tryz.prog 107 (fs k) :=
  fnS [tZ] [tZ] ptL fns fgs0 fws0 (fun k (x : ZX) => ref02_Neg.f k x) ok trivial (fun k x => by kernel_rfl) (fun k => ⟨⟨ref02_made.c k, trivial⟩, trivial, trivial⟩) k
end ref02_Neg

namespace ref01_Add
def s9 : PSig := ⟨0, [], [(0, .val tL), (1, .val tL), (5, .val (.int .i64))]⟩
def s0 : PSig := ⟨0, [(43, (.int .u32), false)], [(0, .val tL), (1, .val tL), (5, .val (.int .i64)), (6, .own 0), (7, .val (.int .u64)), (8, .val (.int .i64))]⟩
def ptL : List (Pt (TD [tL])) := [⟨9, s9, fun k (x : LX × LX × Int) => ref01_Add.p9 k x.1 x.2.1 x.2.2⟩, ⟨0, s0, fun k (x : LX × LX × LX × Int × Int × Int) => ref01_Add.p0 k x.1 x.2.1 x.2.2.1 x.2.2.2.1 x.2.2.2.2.1 x.2.2.2.2.2⟩]
def fns : Nat → List (FuncId × FS) := fun k => [(44, ref01_at.fs k), (12, ref01_Norm.fs k)]
def fs (k : Nat) : FS := ⟨[tL, tL], [tL], fun (x : LX × LX) => ref01_Add.f k x.1 x.2⟩
theorem ok : FnO Tryz.prog 33 44 Tryz.f33 2 := okF _ (by kernel_rfl) (by kernel_rfl)
theorem c (k : Nat) : Contract Tryz.prog 33 (fs k) :=
  fnS [tL, tL] [tL] ptL fns fgs0 fws0 (fun k (x : LX × LX) => ref01_Add.f k x.1 x.2) ok ⟨⟨rfl, fun _ => rfl, fun k x => by kernel_rfl⟩, ⟨rfl, fun _ => rfl, fun k x => by kernel_rfl⟩, trivial⟩ (fun k x => by kernel_rfl) (fun k => ⟨⟨ref01_at.c k, ref01_Norm.c k, trivial⟩, trivial, trivial⟩) k
end ref01_Add

namespace ref02_Add
def ptL : List (Pt (TD [tZ])) := []
def fns : Nat → List (FuncId × FS) := fun k => [(33, ref01_Add.fs k), (71, ref02_made.fs k), (14, ref01_Cmp.fs k), (37, ref01_Sub.fs k)]
def fs (k : Nat) : FS := ⟨[tZ, tZ], [tZ], fun (x : ZX × ZX) => ref02_Add.f k x.1 x.2⟩
theorem ok : FnO Tryz.prog 35 52 Tryz.f35 2 := okF _ (by kernel_rfl) (by kernel_rfl)
theorem c (k : Nat) : Contract Tryz.prog 35 (fs k) :=
  fnS [tZ, tZ] [tZ] ptL fns fgs0 fws0 (fun k (x : ZX × ZX) => ref02_Add.f k x.1 x.2) ok trivial (fun k x => by kernel_rfl) (fun k => ⟨⟨ref01_Add.c k, ref02_made.c k, ref01_Cmp.c k, ref01_Sub.c k, trivial⟩, trivial, trivial⟩) k
end ref02_Add

namespace ref02_Sub
def ptL : List (Pt (TD [tZ])) := []
def fns : Nat → List (FuncId × FS) := fun k => [(107, ref02_Neg.fs k), (35, ref02_Add.fs k)]
def fs (k : Nat) : FS := ⟨[tZ, tZ], [tZ], fun (x : ZX × ZX) => ref02_Sub.f k x.1 x.2⟩
theorem ok : FnO Tryz.prog 111 9 Tryz.f111 2 := okF _ (by kernel_rfl) (by kernel_rfl)
theorem c (k : Nat) : Contract Tryz.prog 111 (fs k) :=
  fnS [tZ, tZ] [tZ] ptL fns fgs0 fws0 (fun k (x : ZX × ZX) => ref02_Sub.f k x.1 x.2) ok trivial (fun k x => by kernel_rfl) (fun k => ⟨⟨ref02_Neg.c k, ref02_Add.c k, trivial⟩, trivial, trivial⟩) k
end ref02_Sub

namespace ref02_Floor
def s9 : PSig := ⟨0, [(25, tZ, true), (25, tZ, true), (25, tZ, true), (25, tZ, true)], [(4, .ptr 0 []), (5, .ptr 1 []), (7, .ptr 2 []), (8, .ptr 3 []), (9, .val (.int .i64))]⟩
def ptL : List (Pt (TD [tZ, tZ, (.int .i64)])) := [⟨9, s9, fun k (x : ZX × ZX × ZX × ZX × Int) => ref02_Floor.p9 k x.1 x.2.1 x.2.2.1 x.2.2.2.1 x.2.2.2.2⟩]
def fns : Nat → List (FuncId × FS) := fun k => [(110, ref02_Quo.fs k), (98, ref02_Sign.fs k), (32, ref02_Of.fs k), (111, ref02_Sub.fs k), (35, ref02_Add.fs k)]
def fs (k : Nat) : FS := ⟨[tZ, tZ], [tZ, tZ, (.int .i64)], fun (x : ZX × ZX) => ref02_Floor.f k x.1 x.2⟩
theorem ok : FnO Tryz.prog 97 40 Tryz.f97 2 := okF _ (by kernel_rfl) (by kernel_rfl)
theorem c (k : Nat) : Contract Tryz.prog 97 (fs k) :=
  fnS [tZ, tZ] [tZ, tZ, (.int .i64)] ptL fns fgs0 fws0 (fun k (x : ZX × ZX) => ref02_Floor.f k x.1 x.2) ok ⟨⟨rfl, fun _ => rfl, fun k x => by kernel_rfl⟩, trivial⟩ (fun k x => by kernel_rfl) (fun k => ⟨⟨ref02_Quo.c k, ref02_Sign.c k, ref02_Of.c k, ref02_Sub.c k, ref02_Add.c k, trivial⟩, trivial, trivial⟩) k
end ref02_Floor

namespace ref03_Floor
def ptL : List (Pt (TD [tZ])) := []
def fns : Nat → List (FuncId × FS) := fun k => [(13, ref03_Norm.fs k), (39, ref03_positive.fs k), (97, ref02_Floor.fs k)]
def fs (k : Nat) : FS := ⟨[tQ], [tZ], fun (x : RX) => ref03_Floor.f k x⟩
theorem ok : FnO Tryz.prog 67 19 Tryz.f67 1 := okF _ (by kernel_rfl) (by kernel_rfl)
theorem c (k : Nat) : Contract Tryz.prog 67 (fs k) :=
  fnS [tQ] [tZ] ptL fns fgs0 fws0 (fun k (x : RX) => ref03_Floor.f k x) ok trivial (fun k x => by kernel_rfl) (fun k => ⟨⟨ref03_Norm.c k, ref03_positive.c k, ref02_Floor.c k, trivial⟩, trivial, trivial⟩) k
end ref03_Floor

namespace ref03_Int
def ptL : List (Pt (TD [tQ])) := []
def fns : Nat → List (FuncId × FS) := fun k => [(13, ref03_Norm.fs k)]
def fs (k : Nat) : FS := ⟨[tZ], [tQ], fun (x : ZX) => ref03_Int.f k x⟩
theorem ok : FnO Tryz.prog 68 7 Tryz.f68 1 := okF _ (by kernel_rfl) (by kernel_rfl)
theorem c (k : Nat) : Contract Tryz.prog 68 (fs k) :=
  fnS [tZ] [tQ] ptL fns fgs0 fws0 (fun k (x : ZX) => ref03_Int.f k x) ok trivial (fun k x => by kernel_rfl) (fun k => ⟨⟨ref03_Norm.c k, trivial⟩, trivial, trivial⟩) k
end ref03_Int

namespace ref03_Neg
def ptL : List (Pt (TD [tQ])) := []
def fns : Nat → List (FuncId × FS) := fun k => [(13, ref03_Norm.fs k), (107, ref02_Neg.fs k)]
def fs (k : Nat) : FS := ⟨[tQ], [tQ], fun (x : RX) => ref03_Neg.f k x⟩
theorem ok : FnO Tryz.prog 82 12 Tryz.f82 1 := okF _ (by kernel_rfl) (by kernel_rfl)
theorem c (k : Nat) : Contract Tryz.prog 82 (fs k) :=
  fnS [tQ] [tQ] ptL fns fgs0 fws0 (fun k (x : RX) => ref03_Neg.f k x) ok trivial (fun k x => by kernel_rfl) (fun k => ⟨⟨ref03_Norm.c k, ref02_Neg.c k, trivial⟩, trivial, trivial⟩) k
end ref03_Neg

namespace ref01_Mul
def s0 : PSig := ⟨0, [(43, (.int .u32), false)], [(0, .val tL), (1, .val tL), (5, .own 0), (6, .val (.int .i64))]⟩
def s4 : PSig := ⟨0, [(43, (.int .u32), false)], [(0, .val tL), (1, .val tL), (5, .own 0), (6, .val (.int .i64)), (7, .val (.int .u64)), (8, .val (.int .i64))]⟩
def ptL : List (Pt (TD [tL])) := [⟨0, s0, fun k (x : LX × LX × LX × Int) => ref01_Mul.p0 k x.1 x.2.1 x.2.2.1 x.2.2.2⟩, ⟨4, s4, fun k (x : LX × LX × LX × Int × Int × Int) => ref01_Mul.p4 k x.1 x.2.1 x.2.2.1 x.2.2.2.1 x.2.2.2.2.1 x.2.2.2.2.2⟩]
def fns : Nat → List (FuncId × FS) := fun k => [(12, ref01_Norm.fs k)]
def fs (k : Nat) : FS := ⟨[tL, tL], [tL], fun (x : LX × LX) => ref01_Mul.f k x.1 x.2⟩
theorem ok : FnO Tryz.prog 34 68 Tryz.f34 2 := okF _ (by kernel_rfl) (by kernel_rfl)
theorem c (k : Nat) : Contract Tryz.prog 34 (fs k) :=
  fnS [tL, tL] [tL] ptL fns fgs0 fws0 (fun k (x : LX × LX) => ref01_Mul.f k x.1 x.2) ok ⟨⟨rfl, fun _ => rfl, fun k x => by kernel_rfl⟩, ⟨rfl, fun _ => rfl, fun k x => by kernel_rfl⟩, trivial⟩ (fun k x => by kernel_rfl) (fun k => ⟨⟨ref01_Norm.c k, trivial⟩, trivial, trivial⟩) k
end ref01_Mul

namespace ref02_Mul
def ptL : List (Pt (TD [tZ])) := []
def fns : Nat → List (FuncId × FS) := fun k => [(34, ref01_Mul.fs k), (71, ref02_made.fs k)]
def fs (k : Nat) : FS := ⟨[tZ, tZ], [tZ], fun (x : ZX × ZX) => ref02_Mul.f k x.1 x.2⟩
theorem ok : FnO Tryz.prog 36 16 Tryz.f36 2 := okF _ (by kernel_rfl) (by kernel_rfl)
theorem c (k : Nat) : Contract Tryz.prog 36 (fs k) :=
  fnS [tZ, tZ] [tZ] ptL fns fgs0 fws0 (fun k (x : ZX × ZX) => ref02_Mul.f k x.1 x.2) ok trivial (fun k x => by kernel_rfl) (fun k => ⟨⟨ref01_Mul.c k, ref02_made.c k, trivial⟩, trivial, trivial⟩) k
end ref02_Mul

namespace ref03_Add
def ptL : List (Pt (TD [tQ])) := []
def fns : Nat → List (FuncId × FS) := fun k => [(13, ref03_Norm.fs k), (39, ref03_positive.fs k), (36, ref02_Mul.fs k), (35, ref02_Add.fs k), (34, ref01_Mul.fs k)]
def fs (k : Nat) : FS := ⟨[tQ, tQ], [tQ], fun (x : RX × RX) => ref03_Add.f k x.1 x.2⟩
theorem ok : FnO Tryz.prog 83 31 Tryz.f83 2 := okF _ (by kernel_rfl) (by kernel_rfl)
theorem c (k : Nat) : Contract Tryz.prog 83 (fs k) :=
  fnS [tQ, tQ] [tQ] ptL fns fgs0 fws0 (fun k (x : RX × RX) => ref03_Add.f k x.1 x.2) ok trivial (fun k x => by kernel_rfl) (fun k => ⟨⟨ref03_Norm.c k, ref03_positive.c k, ref02_Mul.c k, ref02_Add.c k, ref01_Mul.c k, trivial⟩, trivial, trivial⟩) k
end ref03_Add

namespace ref03_Sub
def ptL : List (Pt (TD [tQ])) := []
def fns : Nat → List (FuncId × FS) := fun k => [(82, ref03_Neg.fs k), (83, ref03_Add.fs k)]
def fs (k : Nat) : FS := ⟨[tQ, tQ], [tQ], fun (x : RX × RX) => ref03_Sub.f k x.1 x.2⟩
theorem ok : FnO Tryz.prog 47 9 Tryz.f47 2 := okF _ (by kernel_rfl) (by kernel_rfl)
theorem c (k : Nat) : Contract Tryz.prog 47 (fs k) :=
  fnS [tQ, tQ] [tQ] ptL fns fgs0 fws0 (fun k (x : RX × RX) => ref03_Sub.f k x.1 x.2) ok trivial (fun k x => by kernel_rfl) (fun k => ⟨⟨ref03_Neg.c k, ref03_Add.c k, trivial⟩, trivial, trivial⟩) k
end ref03_Sub

namespace ref03_Sign
def ptL : List (Pt (TD [(.int .i64)])) := []
def fns : Nat → List (FuncId × FS) := fun k => [(13, ref03_Norm.fs k), (98, ref02_Sign.fs k)]
def fs (k : Nat) : FS := ⟨[tQ], [(.int .i64)], fun (x : RX) => ref03_Sign.f k x⟩
theorem ok : FnO Tryz.prog 69 7 Tryz.f69 1 := okF _ (by kernel_rfl) (by kernel_rfl)
theorem c (k : Nat) : Contract Tryz.prog 69 (fs k) :=
  fnS [tQ] [(.int .i64)] ptL fns fgs0 fws0 (fun k (x : RX) => ref03_Sign.f k x) ok trivial (fun k x => by kernel_rfl) (fun k => ⟨⟨ref03_Norm.c k, ref02_Sign.c k, trivial⟩, trivial, trivial⟩) k
end ref03_Sign

namespace ref03_Of
def ptL : List (Pt (TD [tQ, (.int .i64)])) := []
def fns : Nat → List (FuncId × FS) := fun k => [(42, ref02_Norm.fs k), (13, ref03_Norm.fs k)]
def fs (k : Nat) : FS := ⟨[tZ, tZ], [tQ, (.int .i64)], fun (x : ZX × ZX) => ref03_Of.f k x.1 x.2⟩
theorem ok : FnO Tryz.prog 99 29 Tryz.f99 2 := okF _ (by kernel_rfl) (by kernel_rfl)
theorem c (k : Nat) : Contract Tryz.prog 99 (fs k) :=
  fnS [tZ, tZ] [tQ, (.int .i64)] ptL fns fgs0 fws0 (fun k (x : ZX × ZX) => ref03_Of.f k x.1 x.2) ok trivial (fun k x => by kernel_rfl) (fun k => ⟨⟨ref02_Norm.c k, ref03_Norm.c k, trivial⟩, trivial, trivial⟩) k
end ref03_Of

namespace ref03_Inv
def ptL : List (Pt (TD [tQ, (.int .i64)])) := []
def fns : Nat → List (FuncId × FS) := fun k => [(13, ref03_Norm.fs k), (39, ref03_positive.fs k), (99, ref03_Of.fs k)]
def fs (k : Nat) : FS := ⟨[tQ], [tQ, (.int .i64)], fun (x : RX) => ref03_Inv.f k x⟩
theorem ok : FnO Tryz.prog 70 14 Tryz.f70 1 := okF _ (by kernel_rfl) (by kernel_rfl)
theorem c (k : Nat) : Contract Tryz.prog 70 (fs k) :=
  fnS [tQ] [tQ, (.int .i64)] ptL fns fgs0 fws0 (fun k (x : RX) => ref03_Inv.f k x) ok trivial (fun k x => by kernel_rfl) (fun k => ⟨⟨ref03_Norm.c k, ref03_positive.c k, ref03_Of.c k, trivial⟩, trivial, trivial⟩) k
end ref03_Inv

namespace ref03_Expand
def s0 : PSig := ⟨0, [(27, tQ, true), (25, tZ, false)], [(1, .ptr 0 []), (3, .own 1)]⟩
def ptL : List (Pt (TD [(.list tZ)])) := [⟨0, s0, fun k (x : RX × (List ZX)) => ref03_Expand.p0 k x.1 x.2⟩]
def fns : Nat → List (FuncId × FS) := fun k => [(67, ref03_Floor.fs k), (68, ref03_Int.fs k), (47, ref03_Sub.fs k), (69, ref03_Sign.fs k), (70, ref03_Inv.fs k)]
def fs (k : Nat) : FS := ⟨[tQ], [(.list tZ)], fun (x : RX) => ref03_Expand.f k x⟩
theorem ok : FnO Tryz.prog 31 26 Tryz.f31 1 := okF _ (by kernel_rfl) (by kernel_rfl)
theorem c (k : Nat) : Contract Tryz.prog 31 (fs k) :=
  fnS [tQ] [(.list tZ)] ptL fns fgs0 fws0 (fun k (x : RX) => ref03_Expand.f k x) ok ⟨⟨rfl, fun _ => rfl, fun k x => by kernel_rfl⟩, trivial⟩ (fun k x => by kernel_rfl) (fun k => ⟨⟨ref03_Floor.c k, ref03_Int.c k, ref03_Sub.c k, ref03_Sign.c k, ref03_Inv.c k, trivial⟩, trivial, trivial⟩) k
end ref03_Expand

namespace ref03_Abs
def ptL : List (Pt (TD [tQ])) := []
def fns : Nat → List (FuncId × FS) := fun k => [(69, ref03_Sign.fs k), (82, ref03_Neg.fs k), (13, ref03_Norm.fs k)]
def fs (k : Nat) : FS := ⟨[tQ], [tQ], fun (x : RX) => ref03_Abs.f k x⟩
theorem ok : FnO Tryz.prog 46 10 Tryz.f46 1 := okF _ (by kernel_rfl) (by kernel_rfl)
theorem c (k : Nat) : Contract Tryz.prog 46 (fs k) :=
  fnS [tQ] [tQ] ptL fns fgs0 fws0 (fun k (x : RX) => ref03_Abs.f k x) ok trivial (fun k x => by kernel_rfl) (fun k => ⟨⟨ref03_Sign.c k, ref03_Neg.c k, ref03_Norm.c k, trivial⟩, trivial, trivial⟩) k
end ref03_Abs

namespace ref03_Cmp
def ptL : List (Pt (TD [(.int .i64)])) := []
def fns : Nat → List (FuncId × FS) := fun k => [(47, ref03_Sub.fs k), (69, ref03_Sign.fs k)]
def fs (k : Nat) : FS := ⟨[tQ, tQ], [(.int .i64)], fun (x : RX × RX) => ref03_Cmp.f k x.1 x.2⟩
theorem ok : FnO Tryz.prog 45 9 Tryz.f45 2 := okF _ (by kernel_rfl) (by kernel_rfl)
theorem c (k : Nat) : Contract Tryz.prog 45 (fs k) :=
  fnS [tQ, tQ] [(.int .i64)] ptL fns fgs0 fws0 (fun k (x : RX × RX) => ref03_Cmp.f k x.1 x.2) ok trivial (fun k x => by kernel_rfl) (fun k => ⟨⟨ref03_Sub.c k, ref03_Sign.c k, trivial⟩, trivial, trivial⟩) k
end ref03_Cmp

namespace ref03_Nearer
def ptL : List (Pt (TD [.bool])) := []
def fns : Nat → List (FuncId × FS) := fun k => [(47, ref03_Sub.fs k), (46, ref03_Abs.fs k), (45, ref03_Cmp.fs k), (13, ref03_Norm.fs k), (14, ref01_Cmp.fs k)]
def fs (k : Nat) : FS := ⟨[tQ, tQ, tQ], [.bool], fun (x : RX × RX × RX) => ref03_Nearer.f k x.1 x.2.1 x.2.2⟩
theorem ok : FnO Tryz.prog 15 36 Tryz.f15 3 := okF _ (by kernel_rfl) (by kernel_rfl)
theorem c (k : Nat) : Contract Tryz.prog 15 (fs k) :=
  fnS [tQ, tQ, tQ] [.bool] ptL fns fgs0 fws0 (fun k (x : RX × RX × RX) => ref03_Nearer.f k x.1 x.2.1 x.2.2) ok trivial (fun k x => by kernel_rfl) (fun k => ⟨⟨ref03_Sub.c k, ref03_Abs.c k, ref03_Cmp.c k, ref03_Norm.c k, ref01_Cmp.c k, trivial⟩, trivial, trivial⟩) k
end ref03_Nearer

namespace ref03_Best
def s0 : PSig := ⟨0, [(27, tQ, true), (27, tQ, true), (25, tZ, true), (25, tZ, true)], [(1, .val tL), (2, .ptr 0 []), (4, .ptr 1 []), (6, .val (.list tZ)), (7, .ptr 2 []), (8, .val tL), (9, .ptr 3 []), (10, .val tL), (11, .val (.int .i64))]⟩
def ptL : List (Pt (TD [tQ, (.int .i64)])) := [⟨0, s0, fun k (x : RX × RX × ZX × ZX × LX × (List ZX) × LX × LX × Int) => ref03_Best.p0 k x.1 x.2.1 x.2.2.1 x.2.2.2.1 x.2.2.2.2.1 x.2.2.2.2.2.1 x.2.2.2.2.2.2.1 x.2.2.2.2.2.2.2.1 x.2.2.2.2.2.2.2.2⟩]
def fns : Nat → List (FuncId × FS) := fun k => [(13, ref03_Norm.fs k), (12, ref01_Norm.fs k), (14, ref01_Cmp.fs k), (31, ref03_Expand.fs k), (32, ref02_Of.fs k), (34, ref01_Mul.fs k), (33, ref01_Add.fs k), (37, ref01_Sub.fs k), (38, ref01_Div.fs k), (39, ref03_positive.fs k), (36, ref02_Mul.fs k), (35, ref02_Add.fs k), (15, ref03_Nearer.fs k)]
def fs (k : Nat) : FS := ⟨[tQ, tL], [tQ, (.int .i64)], fun (x : RX × LX) => ref03_Best.f k x.1 x.2⟩
theorem ok : FnO Tryz.prog 8 105 Tryz.f8 2 := okF _ (by kernel_rfl) (by kernel_rfl)
theorem c (k : Nat) : Contract Tryz.prog 8 (fs k) :=
  fnS [tQ, tL] [tQ, (.int .i64)] ptL fns fgs0 fws0 (fun k (x : RX × LX) => ref03_Best.f k x.1 x.2) ok ⟨⟨rfl, fun _ => rfl, fun k x => by kernel_rfl⟩, trivial⟩ (fun k x => by kernel_rfl) (fun k => ⟨⟨ref03_Norm.c k, ref01_Norm.c k, ref01_Cmp.c k, ref03_Expand.c k, ref02_Of.c k, ref01_Mul.c k, ref01_Add.c k, ref01_Sub.c k, ref01_Div.c k, ref03_positive.c k, ref02_Mul.c k, ref02_Add.c k, ref03_Nearer.c k, trivial⟩, trivial, trivial⟩) k
end ref03_Best

namespace ref01_Same
def s0 : PSig := ⟨0, [], [(0, .val tL), (1, .val tL), (5, .val (.int .i64))]⟩
def ptL : List (Pt (TD [.bool])) := [⟨0, s0, fun k (x : LX × LX × Int) => ref01_Same.p0 k x.1 x.2.1 x.2.2⟩]
def fs (k : Nat) : FS := ⟨[tL, tL], [.bool], fun (x : LX × LX) => ref01_Same.f k x.1 x.2⟩
theorem ok : FnO Tryz.prog 75 26 Tryz.f75 2 := okF _ (by kernel_rfl) (by kernel_rfl)
theorem c (k : Nat) : Contract Tryz.prog 75 (fs k) :=
  fnS [tL, tL] [.bool] ptL fns0 fgs0 fws0 (fun k (x : LX × LX) => ref01_Same.f k x.1 x.2) ok ⟨⟨rfl, fun _ => rfl, fun k x => by kernel_rfl⟩, trivial⟩ (fun k x => by kernel_rfl) (fun _ => ⟨trivial, trivial, trivial⟩) k
end ref01_Same

namespace ref03_Same
def ptL : List (Pt (TD [.bool])) := []
def fns : Nat → List (FuncId × FS) := fun k => [(75, ref01_Same.fs k)]
def fs (k : Nat) : FS := ⟨[tQ, tQ], [.bool], fun (x : RX × RX) => ref03_Same.f k x.1 x.2⟩
theorem ok : FnO Tryz.prog 40 28 Tryz.f40 2 := okF _ (by kernel_rfl) (by kernel_rfl)
theorem c (k : Nat) : Contract Tryz.prog 40 (fs k) :=
  fnS [tQ, tQ] [.bool] ptL fns fgs0 fws0 (fun k (x : RX × RX) => ref03_Same.f k x.1 x.2) ok trivial (fun k x => by kernel_rfl) (fun k => ⟨⟨ref01_Same.c k, trivial⟩, trivial, trivial⟩) k
end ref03_Same

namespace law03_same
def ptL : List (Pt (TD [.bool])) := []
def fns : Nat → List (FuncId × FS) := fun k => [(40, ref03_Same.fs k)]
def fs (k : Nat) : FS := ⟨[tQ, tQ], [.bool], fun (x : RX × RX) => law03_same.f k x.1 x.2⟩
theorem ok : FnO Tryz.prog 9 8 Tryz.f9 2 := okF _ (by kernel_rfl) (by kernel_rfl)
theorem c (k : Nat) : Contract Tryz.prog 9 (fs k) :=
  fnS [tQ, tQ] [.bool] ptL fns fgs0 fws0 (fun k (x : RX × RX) => law03_same.f k x.1 x.2) ok trivial (fun k x => by kernel_rfl) (fun k => ⟨⟨ref03_Same.c k, trivial⟩, trivial, trivial⟩) k
end law03_same

namespace law03_none
def ptL : List (Pt (TD [.bool])) := []
def fs (k : Nat) : FS := ⟨[tQ], [.bool], fun (x : RX) => law03_none.f k x⟩
theorem ok : FnO Tryz.prog 10 20 Tryz.f10 1 := okF _ (by kernel_rfl) (by kernel_rfl)
theorem c (k : Nat) : Contract Tryz.prog 10 (fs k) :=
  fnS [tQ] [.bool] ptL fns0 fgs0 fws0 (fun k (x : RX) => law03_none.f k x) ok trivial (fun k x => by kernel_rfl) (fun _ => ⟨trivial, trivial, trivial⟩) k
end law03_none

namespace stringslite_HasPrefix
def ptL : List (Pt (TD [.bool])) := []
def fs (k : Nat) : FS := ⟨[.str, .str], [.bool], fun (x : ByteArray × ByteArray) => stringslite_HasPrefix.f k x.1 x.2⟩
theorem ok : FnO Tryz.prog 112 18 Tryz.f112 2 := okF _ (by kernel_rfl) (by kernel_rfl)
theorem c (k : Nat) : Contract Tryz.prog 112 (fs k) :=
  fnS [.str, .str] [.bool] ptL fns0 fgs0 fws0 (fun k (x : ByteArray × ByteArray) => stringslite_HasPrefix.f k x.1 x.2) ok trivial (fun k x => by kernel_rfl) (fun _ => ⟨trivial, trivial, trivial⟩) k
end stringslite_HasPrefix

namespace stringslite_CutPrefix
def ptL : List (Pt (TD [.str, .bool])) := []
def fns : Nat → List (FuncId × FS) := fun k => [(112, stringslite_HasPrefix.fs k)]
def fs (k : Nat) : FS := ⟨[.str, .str], [.str, .bool], fun (x : ByteArray × ByteArray) => stringslite_CutPrefix.f k x.1 x.2⟩
theorem ok : FnO Tryz.prog 100 15 Tryz.f100 2 := okF _ (by kernel_rfl) (by kernel_rfl)
theorem c (k : Nat) : Contract Tryz.prog 100 (fs k) :=
  fnS [.str, .str] [.str, .bool] ptL fns fgs0 fws0 (fun k (x : ByteArray × ByteArray) => stringslite_CutPrefix.f k x.1 x.2) ok trivial (fun k x => by kernel_rfl) (fun k => ⟨⟨stringslite_HasPrefix.c k, trivial⟩, trivial, trivial⟩) k
end stringslite_CutPrefix

namespace strings_CutPrefix
def ptL : List (Pt (TD [.str, .bool])) := []
def fns : Nat → List (FuncId × FS) := fun k => [(100, stringslite_CutPrefix.fs k)]
def fs (k : Nat) : FS := ⟨[.str, .str], [.str, .bool], fun (x : ByteArray × ByteArray) => strings_CutPrefix.f k x.1 x.2⟩
theorem ok : FnO Tryz.prog 76 11 Tryz.f76 2 := okF _ (by kernel_rfl) (by kernel_rfl)
theorem c (k : Nat) : Contract Tryz.prog 76 (fs k) :=
  fnS [.str, .str] [.str, .bool] ptL fns fgs0 fws0 (fun k (x : ByteArray × ByteArray) => strings_CutPrefix.f k x.1 x.2) ok trivial (fun k x => by kernel_rfl) (fun k => ⟨⟨stringslite_CutPrefix.c k, trivial⟩, trivial, trivial⟩) k
end strings_CutPrefix

namespace bytealg_IndexByteString
theorem c (k : Nat) : Contract Tryz.prog 123 ⟨[.str, (.int .u8)], [(.int .i64)], fun (x : ByteArray × Int) => bytealg_IndexByteString.f k x.1 x.2⟩ :=
  indexByteString_contract (fn := Tryz.f123) (by kernel_rfl) (by kernel_rfl) (by kernel_rfl) (by kernel_rfl) (by kernel_rfl) (fun _ _ => rfl)
end bytealg_IndexByteString

namespace stringslite_IndexByte
def ptL : List (Pt (TD [(.int .i64)])) := []
def fns : Nat → List (FuncId × FS) := fun k => [(123, ⟨[.str, (.int .u8)], [(.int .i64)], fun (x : ByteArray × Int) => bytealg_IndexByteString.f k x.1 x.2⟩)]
def fs (k : Nat) : FS := ⟨[.str, (.int .u8)], [(.int .i64)], fun (x : ByteArray × Int) => stringslite_IndexByte.f k x.1 x.2⟩
theorem ok : FnO Tryz.prog 117 8 Tryz.f117 2 := okF _ (by kernel_rfl) (by kernel_rfl)
theorem c (k : Nat) : Contract Tryz.prog 117 (fs k) :=
  fnS [.str, (.int .u8)] [(.int .i64)] ptL fns fgs0 fws0 (fun k (x : ByteArray × Int) => stringslite_IndexByte.f k x.1 x.2) ok trivial (fun k x => by kernel_rfl) (fun k => ⟨⟨bytealg_IndexByteString.c k, trivial⟩, trivial, trivial⟩) k
end stringslite_IndexByte

namespace bytealg_Cutover
def ptL : List (Pt (TD [(.int .i64)])) := []
def fs (k : Nat) : FS := ⟨[(.int .i64)], [(.int .i64)], fun (x : Int) => bytealg_Cutover.f k x⟩
theorem ok : FnO Tryz.prog 119 6 Tryz.f119 1 := okF _ (by kernel_rfl) (by kernel_rfl)
theorem c (k : Nat) : Contract Tryz.prog 119 (fs k) :=
  fnS [(.int .i64)] [(.int .i64)] ptL fns0 fgs0 fws0 (fun k (x : Int) => bytealg_Cutover.f k x) ok trivial (fun k x => by kernel_rfl) (fun _ => ⟨trivial, trivial, trivial⟩) k
end bytealg_Cutover

namespace bytealg_hashStr_string_
def s0 : PSig := ⟨0, [], [(0, .val .str), (4, .val (.int .u32)), (5, .val (.int .i64))]⟩
def s4 : PSig := ⟨0, [], [(4, .val (.int .u32)), (6, .val (.int .u32)), (7, .val (.int .u32)), (8, .val (.int .i64))]⟩
def s25 : PSig := ⟨0, [], [(4, .val (.int .u32)), (6, .val (.int .u32)), (7, .val (.int .u32)), (8, .val (.int .i64))]⟩
def ptL : List (Pt (TD [(.int .u32), (.int .u32)])) := [⟨0, s0, fun k (x : ByteArray × Int × Int) => bytealg_hashStr_string_.p0 k x.1 x.2.1 x.2.2⟩, ⟨4, s4, fun k (x : Int × Int × Int × Int) => bytealg_hashStr_string_.p4 k x.1 x.2.1 x.2.2.1 x.2.2.2⟩, ⟨25, s25, fun k (x : Int × Int × Int × Int) => bytealg_hashStr_string_.p25 k x.1 x.2.1 x.2.2.1 x.2.2.2⟩]
def fs (k : Nat) : FS := ⟨[.str], [(.int .u32), (.int .u32)], fun (x : ByteArray) => bytealg_hashStr_string_.f k x⟩
theorem ok : FnO Tryz.prog 124 39 Tryz.f124 1 := okF _ (by kernel_rfl) (by kernel_rfl)
theorem c (k : Nat) : Contract Tryz.prog 124 (fs k) :=
  fnS [.str] [(.int .u32), (.int .u32)] ptL fns0 fgs0 fws0 (fun k (x : ByteArray) => bytealg_hashStr_string_.f k x) ok ⟨⟨rfl, fun _ => rfl, fun k x => by kernel_rfl⟩, ⟨rfl, fun _ => rfl, fun k x => by kernel_rfl⟩, ⟨rfl, fun _ => rfl, fun k x => by kernel_rfl⟩, trivial⟩ (fun k x => by kernel_rfl) (fun _ => ⟨trivial, trivial, trivial⟩) k
end bytealg_hashStr_string_

namespace bytealg_IndexRabinKarp_string_
def s0 : PSig := ⟨0, [], [(0, .val .str), (1, .val .str), (5, .val (.int .u32)), (6, .val (.int .u32)), (7, .val (.int .i64)), (8, .val (.int .u32)), (9, .val (.int .i64))]⟩
def s21 : PSig := ⟨0, [], [(0, .val .str), (1, .val .str), (5, .val (.int .u32)), (6, .val (.int .u32)), (7, .val (.int .i64)), (8, .val (.int .u32))]⟩
def s4 : PSig := ⟨0, [], [(0, .val .str), (1, .val .str), (5, .val (.int .u32)), (6, .val (.int .u32)), (7, .val (.int .i64)), (8, .val (.int .u32)), (10, .val (.int .i64))]⟩
def ptL : List (Pt (TD [(.int .i64)])) := [⟨0, s0, fun k (x : ByteArray × ByteArray × Int × Int × Int × Int × Int) => bytealg_IndexRabinKarp_string_.p0 k x.1 x.2.1 x.2.2.1 x.2.2.2.1 x.2.2.2.2.1 x.2.2.2.2.2.1 x.2.2.2.2.2.2⟩, ⟨21, s21, fun k (x : ByteArray × ByteArray × Int × Int × Int × Int) => bytealg_IndexRabinKarp_string_.p21 k x.1 x.2.1 x.2.2.1 x.2.2.2.1 x.2.2.2.2.1 x.2.2.2.2.2⟩, ⟨4, s4, fun k (x : ByteArray × ByteArray × Int × Int × Int × Int × Int) => bytealg_IndexRabinKarp_string_.p4 k x.1 x.2.1 x.2.2.1 x.2.2.2.1 x.2.2.2.2.1 x.2.2.2.2.2.1 x.2.2.2.2.2.2⟩]
def fns : Nat → List (FuncId × FS) := fun k => [(124, bytealg_hashStr_string_.fs k)]
def fs (k : Nat) : FS := ⟨[.str, .str], [(.int .i64)], fun (x : ByteArray × ByteArray) => bytealg_IndexRabinKarp_string_.f k x.1 x.2⟩
theorem ok : FnO Tryz.prog 120 81 Tryz.f120 2 := okF _ (by kernel_rfl) (by kernel_rfl)
theorem c (k : Nat) : Contract Tryz.prog 120 (fs k) :=
  fnS [.str, .str] [(.int .i64)] ptL fns fgs0 fws0 (fun k (x : ByteArray × ByteArray) => bytealg_IndexRabinKarp_string_.f k x.1 x.2) ok ⟨⟨rfl, fun _ => rfl, fun k x => by kernel_rfl⟩, ⟨rfl, fun _ => rfl, fun k x => by kernel_rfl⟩, ⟨rfl, fun _ => rfl, fun k x => by kernel_rfl⟩, trivial⟩ (fun k x => by kernel_rfl) (fun k => ⟨⟨bytealg_hashStr_string_.c k, trivial⟩, trivial, trivial⟩) k
end bytealg_IndexRabinKarp_string_

namespace stringslite_Index
def s7 : PSig := ⟨0, [], []⟩
def ptL : List (Pt (TD [(.int .i64)])) := [⟨7, s7, fun k (x : Unit) => stringslite_Index.p7 k x⟩]
def fns : Nat → List (FuncId × FS) := fun k => [(117, stringslite_IndexByte.fs k)]
def fs (k : Nat) : FS := ⟨[.str, .str], [(.int .i64)], fun (x : ByteArray × ByteArray) => stringslite_Index.f k x.1 x.2⟩
theorem ok : FnO Tryz.prog 113 143 Tryz.f113 2 := okF _ (by kernel_rfl) (by kernel_rfl)
theorem c (k : Nat) : Contract Tryz.prog 113 (fs k) :=
  fnS [.str, .str] [(.int .i64)] ptL fns fgs0 fws0 (fun k (x : ByteArray × ByteArray) => stringslite_Index.f k x.1 x.2) ok ⟨⟨rfl, fun _ => rfl, fun k x => by kernel_rfl⟩, trivial⟩ (fun k x => by kernel_rfl) (fun k => ⟨⟨stringslite_IndexByte.c k, trivial⟩, trivial, trivial⟩) k
end stringslite_Index

namespace stringslite_Cut
def ptL : List (Pt (TD [.str, .str, .bool])) := []
def fns : Nat → List (FuncId × FS) := fun k => [(113, stringslite_Index.fs k)]
def fs (k : Nat) : FS := ⟨[.str, .str], [.str, .str, .bool], fun (x : ByteArray × ByteArray) => stringslite_Cut.f k x.1 x.2⟩
theorem ok : FnO Tryz.prog 101 23 Tryz.f101 2 := okF _ (by kernel_rfl) (by kernel_rfl)
theorem c (k : Nat) : Contract Tryz.prog 101 (fs k) :=
  fnS [.str, .str] [.str, .str, .bool] ptL fns fgs0 fws0 (fun k (x : ByteArray × ByteArray) => stringslite_Cut.f k x.1 x.2) ok trivial (fun k x => by kernel_rfl) (fun k => ⟨⟨stringslite_Index.c k, trivial⟩, trivial, trivial⟩) k
end stringslite_Cut

namespace strings_Cut
def ptL : List (Pt (TD [.str, .str, .bool])) := []
def fns : Nat → List (FuncId × FS) := fun k => [(101, stringslite_Cut.fs k)]
def fs (k : Nat) : FS := ⟨[.str, .str], [.str, .str, .bool], fun (x : ByteArray × ByteArray) => strings_Cut.f k x.1 x.2⟩
theorem ok : FnO Tryz.prog 77 13 Tryz.f77 2 := okF _ (by kernel_rfl) (by kernel_rfl)
theorem c (k : Nat) : Contract Tryz.prog 77 (fs k) :=
  fnS [.str, .str] [.str, .str, .bool] ptL fns fgs0 fws0 (fun k (x : ByteArray × ByteArray) => strings_Cut.f k x.1 x.2) ok trivial (fun k x => by kernel_rfl) (fun k => ⟨⟨stringslite_Cut.c k, trivial⟩, trivial, trivial⟩) k
end strings_Cut

namespace nat_Parse
def s5 : PSig := ⟨0, [], []⟩
def s9 : PSig := ⟨0, [], []⟩
def s11 : PSig := ⟨0, [], [(0, .val .str), (1, .val (.int .i64))]⟩
def s0 : PSig := ⟨0, [(43, (.int .u32), false)], [(0, .val .str), (1, .val (.int .i64)), (6, .own 0), (31, .val (.int .i64)), (32, .val (.int .i64))]⟩
def s23 : PSig := ⟨0, [], []⟩
def s4 : PSig := ⟨0, [(43, (.int .u32), false)], [(0, .val .str), (1, .val (.int .i64)), (6, .own 0), (9, .val (.int .u64)), (31, .val (.int .i64)), (32, .val (.int .i64)), (59, .val (.int .i64)), (60, .val (.int .i64))]⟩
def s45 : PSig := ⟨0, [(43, (.int .u32), false)], [(0, .val .str), (1, .val (.int .i64)), (6, .own 0), (31, .val (.int .i64)), (32, .val (.int .i64))]⟩
def ptL : List (Pt (TD [tL, (.int .i64)])) := [⟨5, s5, fun k (x : Unit) => nat_Parse.p5 k x⟩, ⟨9, s9, fun k (x : Unit) => nat_Parse.p9 k x⟩, ⟨11, s11, fun k (x : ByteArray × Int) => nat_Parse.p11 k x.1 x.2⟩, ⟨0, s0, fun k (x : LX × ByteArray × Int × Int × Int) => nat_Parse.p0 k x.1 x.2.1 x.2.2.1 x.2.2.2.1 x.2.2.2.2⟩, ⟨23, s23, fun k (x : Unit) => nat_Parse.p23 k x⟩, ⟨4, s4, fun k (x : LX × ByteArray × Int × Int × Int × Int × Int × Int) => nat_Parse.p4 k x.1 x.2.1 x.2.2.1 x.2.2.2.1 x.2.2.2.2.1 x.2.2.2.2.2.1 x.2.2.2.2.2.2.1 x.2.2.2.2.2.2.2⟩, ⟨45, s45, fun k (x : LX × ByteArray × Int × Int × Int) => nat_Parse.p45 k x.1 x.2.1 x.2.2.1 x.2.2.2.1 x.2.2.2.2⟩]
def fns : Nat → List (FuncId × FS) := fun k => [(59, nat_own.fs k)]
def fs (k : Nat) : FS := ⟨[.str, (.int .i64)], [tL, (.int .i64)], fun (x : ByteArray × Int) => nat_Parse.f k x.1 x.2⟩
theorem ok : FnO Tryz.prog 78 91 Tryz.f78 2 := okF _ (by kernel_rfl) (by kernel_rfl)
theorem c (k : Nat) : Contract Tryz.prog 78 (fs k) :=
  fnS [.str, (.int .i64)] [tL, (.int .i64)] ptL fns fgs0 fws0 (fun k (x : ByteArray × Int) => nat_Parse.f k x.1 x.2) ok ⟨⟨rfl, fun _ => rfl, fun k x => by kernel_rfl⟩, ⟨rfl, fun _ => rfl, fun k x => by kernel_rfl⟩, ⟨rfl, fun _ => rfl, fun k x => by kernel_rfl⟩, ⟨rfl, fun _ => rfl, fun k x => by kernel_rfl⟩, ⟨rfl, fun _ => rfl, fun k x => by kernel_rfl⟩, ⟨rfl, fun _ => rfl, fun k x => by kernel_rfl⟩, ⟨rfl, fun _ => rfl, fun k x => by kernel_rfl⟩, trivial⟩ (fun k x => by kernel_rfl) (fun k => ⟨⟨nat_own.c k, trivial⟩, trivial, trivial⟩) k
end nat_Parse

namespace strings_trimLeftByte
def s0 : PSig := ⟨0, [], [(0, .val .str), (1, .val (.int .u8))]⟩
def s7 : PSig := ⟨0, [], [(0, .val .str)]⟩
def ptL : List (Pt (TD [.str])) := [⟨0, s0, fun k (x : ByteArray × Int) => strings_trimLeftByte.p0 k x.1 x.2⟩, ⟨7, s7, fun k (x : ByteArray) => strings_trimLeftByte.p7 k x⟩]
def fs (k : Nat) : FS := ⟨[.str, (.int .u8)], [.str], fun (x : ByteArray × Int) => strings_trimLeftByte.f k x.1 x.2⟩
theorem ok : FnO Tryz.prog 102 17 Tryz.f102 2 := okF _ (by kernel_rfl) (by kernel_rfl)
theorem c (k : Nat) : Contract Tryz.prog 102 (fs k) :=
  fnS [.str, (.int .u8)] [.str] ptL fns0 fgs0 fws0 (fun k (x : ByteArray × Int) => strings_trimLeftByte.f k x.1 x.2) ok ⟨⟨rfl, fun _ => rfl, fun k x => by kernel_rfl⟩, ⟨rfl, fun _ => rfl, fun k x => by kernel_rfl⟩, trivial⟩ (fun k x => by kernel_rfl) (fun _ => ⟨trivial, trivial, trivial⟩) k
end strings_trimLeftByte

namespace utf8_decodeRuneInStringSlow
def ptL : List (Pt (TD [(.int .i32), (.int .i64)])) := []
def fs (k : Nat) : FS := ⟨[.str], [(.int .i32), (.int .i64)], fun (x : ByteArray) => utf8_decodeRuneInStringSlow.f k x⟩
theorem ok : FnO Tryz.prog 121 117 Tryz.f121 1 := okF _ (by kernel_rfl) (by kernel_rfl)
theorem c (k : Nat) : Contract Tryz.prog 121 (fs k) :=
  fnS [.str] [(.int .i32), (.int .i64)] ptL fns0 fgs0 fws0 (fun k (x : ByteArray) => utf8_decodeRuneInStringSlow.f k x) ok trivial (fun k x => by kernel_rfl) (fun _ => ⟨trivial, trivial, trivial⟩) k
end utf8_decodeRuneInStringSlow

namespace utf8_DecodeRuneInString
def s7 : PSig := ⟨0, [], [(0, .val .str)]⟩
def ptL : List (Pt (TD [(.int .i32), (.int .i64)])) := [⟨7, s7, fun k (x : ByteArray) => utf8_DecodeRuneInString.p7 k x⟩]
def fns : Nat → List (FuncId × FS) := fun k => [(121, utf8_decodeRuneInStringSlow.fs k)]
def fs (k : Nat) : FS := ⟨[.str], [(.int .i32), (.int .i64)], fun (x : ByteArray) => utf8_DecodeRuneInString.f k x⟩
theorem ok : FnO Tryz.prog 115 19 Tryz.f115 1 := okF _ (by kernel_rfl) (by kernel_rfl)
theorem c (k : Nat) : Contract Tryz.prog 115 (fs k) :=
  fnS [.str] [(.int .i32), (.int .i64)] ptL fns fgs0 fws0 (fun k (x : ByteArray) => utf8_DecodeRuneInString.f k x) ok ⟨⟨rfl, fun _ => rfl, fun k x => by kernel_rfl⟩, trivial⟩ (fun k x => by kernel_rfl) (fun k => ⟨⟨utf8_decodeRuneInStringSlow.c k, trivial⟩, trivial, trivial⟩) k
end utf8_DecodeRuneInString

namespace strings_IndexByte
def ptL : List (Pt (TD [(.int .i64)])) := []
def fns : Nat → List (FuncId × FS) := fun k => [(117, stringslite_IndexByte.fs k)]
def fs (k : Nat) : FS := ⟨[.str, (.int .u8)], [(.int .i64)], fun (x : ByteArray × Int) => strings_IndexByte.f k x.1 x.2⟩
theorem ok : FnO Tryz.prog 125 8 Tryz.f125 2 := okF _ (by kernel_rfl) (by kernel_rfl)
theorem c (k : Nat) : Contract Tryz.prog 125 (fs k) :=
  fnS [.str, (.int .u8)] [(.int .i64)] ptL fns fgs0 fws0 (fun k (x : ByteArray × Int) => strings_IndexByte.f k x.1 x.2) ok trivial (fun k x => by kernel_rfl) (fun k => ⟨⟨stringslite_IndexByte.c k, trivial⟩, trivial, trivial⟩) k
end strings_IndexByte

namespace utf8_ValidRune
def s7 : PSig := ⟨0, [], [(0, .val (.int .i32))]⟩
def s11 : PSig := ⟨0, [], []⟩
def ptL : List (Pt (TD [.bool])) := [⟨7, s7, fun k (x : Int) => utf8_ValidRune.p7 k x⟩, ⟨11, s11, fun k (x : Unit) => utf8_ValidRune.p11 k x⟩]
def fs (k : Nat) : FS := ⟨[(.int .i32)], [.bool], fun (x : Int) => utf8_ValidRune.f k x⟩
theorem ok : FnO Tryz.prog 126 17 Tryz.f126 1 := okF _ (by kernel_rfl) (by kernel_rfl)
theorem c (k : Nat) : Contract Tryz.prog 126 (fs k) :=
  fnS [(.int .i32)] [.bool] ptL fns0 fgs0 fws0 (fun k (x : Int) => utf8_ValidRune.f k x) ok ⟨⟨rfl, fun _ => rfl, fun k x => by kernel_rfl⟩, ⟨rfl, fun _ => rfl, fun k x => by kernel_rfl⟩, trivial⟩ (fun k x => by kernel_rfl) (fun _ => ⟨trivial, trivial, trivial⟩) k
end utf8_ValidRune

namespace strings_IndexRune
def s73 : PSig := ⟨0, [], [(0, .val .str), (1, .val (.int .i32))]⟩
def s18 : PSig := ⟨0, [(9, itT, true)], [(175, .ptr 0 [])]⟩
def s2 : PSig := ⟨0, [], [(0, .val .str), (7, .val .str), (8, .val (.int .i64)), (9, .val (.int .i64))]⟩
def s23 : PSig := ⟨0, [], [(0, .val .str), (7, .val .str), (8, .val (.int .i64)), (9, .val (.int .i64))]⟩
def s6 : PSig := ⟨0, [], [(0, .val .str), (7, .val .str), (8, .val (.int .i64)), (9, .val (.int .i64)), (12, .val (.int .i64))]⟩
def ptL : List (Pt (TD [(.int .i64)])) := [⟨73, s73, fun k (x : ByteArray × Int) => strings_IndexRune.p73 k x.1 x.2⟩, ⟨18, s18, fun k (x : (ByteArray × Nat)) => strings_IndexRune.p18 k x⟩, ⟨2, s2, fun k (x : ByteArray × ByteArray × Int × Int) => strings_IndexRune.p2 k x.1 x.2.1 x.2.2.1 x.2.2.2⟩, ⟨23, s23, fun k (x : ByteArray × ByteArray × Int × Int) => strings_IndexRune.p23 k x.1 x.2.1 x.2.2.1 x.2.2.2⟩, ⟨6, s6, fun k (x : ByteArray × ByteArray × Int × Int × Int) => strings_IndexRune.p6 k x.1 x.2.1 x.2.2.1 x.2.2.2.1 x.2.2.2.2⟩]
def fns : Nat → List (FuncId × FS) := fun k => [(125, strings_IndexByte.fs k), (126, utf8_ValidRune.fs k)]
def fs (k : Nat) : FS := ⟨[.str, (.int .i32)], [(.int .i64)], fun (x : ByteArray × Int) => strings_IndexRune.f k x.1 x.2⟩
theorem ok : FnO Tryz.prog 122 187 Tryz.f122 2 := okF _ (by kernel_rfl) (by kernel_rfl)
theorem c (k : Nat) : Contract Tryz.prog 122 (fs k) :=
  fnS [.str, (.int .i32)] [(.int .i64)] ptL fns fgs0 fws0 (fun k (x : ByteArray × Int) => strings_IndexRune.f k x.1 x.2) ok ⟨⟨rfl, fun _ => rfl, fun k x => by kernel_rfl⟩, ⟨rfl, fun _ => rfl, fun k x => by kernel_rfl⟩, ⟨rfl, fun _ => rfl, fun k x => by kernel_rfl⟩, ⟨rfl, fun _ => rfl, fun k x => by kernel_rfl⟩, ⟨rfl, fun _ => rfl, fun k x => by kernel_rfl⟩, trivial⟩ (fun k x => by kernel_rfl) (fun k => ⟨⟨strings_IndexByte.c k, utf8_ValidRune.c k, trivial⟩, trivial, trivial⟩) k
end strings_IndexRune

namespace strings_ContainsRune
def ptL : List (Pt (TD [.bool])) := []
def fns : Nat → List (FuncId × FS) := fun k => [(122, strings_IndexRune.fs k)]
def fs (k : Nat) : FS := ⟨[.str, (.int .i32)], [.bool], fun (x : ByteArray × Int) => strings_ContainsRune.f k x.1 x.2⟩
theorem ok : FnO Tryz.prog 116 9 Tryz.f116 2 := okF _ (by kernel_rfl) (by kernel_rfl)
theorem c (k : Nat) : Contract Tryz.prog 116 (fs k) :=
  fnS [.str, (.int .i32)] [.bool] ptL fns fgs0 fws0 (fun k (x : ByteArray × Int) => strings_ContainsRune.f k x.1 x.2) ok trivial (fun k x => by kernel_rfl) (fun k => ⟨⟨strings_IndexRune.c k, trivial⟩, trivial, trivial⟩) k
end strings_ContainsRune

namespace strings_trimLeftUnicode
def s0 : PSig := ⟨0, [], [(0, .val .str), (1, .val .str)]⟩
def s11 : PSig := ⟨0, [], [(0, .val .str)]⟩
def ptL : List (Pt (TD [.str])) := [⟨0, s0, fun k (x : ByteArray × ByteArray) => strings_trimLeftUnicode.p0 k x.1 x.2⟩, ⟨11, s11, fun k (x : ByteArray) => strings_trimLeftUnicode.p11 k x⟩]
def fns : Nat → List (FuncId × FS) := fun k => [(115, utf8_DecodeRuneInString.fs k), (116, strings_ContainsRune.fs k)]
def fs (k : Nat) : FS := ⟨[.str, .str], [.str], fun (x : ByteArray × ByteArray) => strings_trimLeftUnicode.f k x.1 x.2⟩
theorem ok : FnO Tryz.prog 105 23 Tryz.f105 2 := okF _ (by kernel_rfl) (by kernel_rfl)
theorem c (k : Nat) : Contract Tryz.prog 105 (fs k) :=
  fnS [.str, .str] [.str] ptL fns fgs0 fws0 (fun k (x : ByteArray × ByteArray) => strings_trimLeftUnicode.f k x.1 x.2) ok ⟨⟨rfl, fun _ => rfl, fun k x => by kernel_rfl⟩, ⟨rfl, fun _ => rfl, fun k x => by kernel_rfl⟩, trivial⟩ (fun k x => by kernel_rfl) (fun k => ⟨⟨utf8_DecodeRuneInString.c k, strings_ContainsRune.c k, trivial⟩, trivial, trivial⟩) k
end strings_trimLeftUnicode

namespace strings_TrimLeft
def s5 : PSig := ⟨0, [], [(0, .val .str)]⟩
def s11 : PSig := ⟨0, [], [(0, .val .str), (1, .val .str)]⟩
def ptL : List (Pt (TD [.str])) := [⟨5, s5, fun k (x : ByteArray) => strings_TrimLeft.p5 k x⟩, ⟨11, s11, fun k (x : ByteArray × ByteArray) => strings_TrimLeft.p11 k x.1 x.2⟩]
def fns : Nat → List (FuncId × FS) := fun k => [(102, strings_trimLeftByte.fs k)]
def fs (k : Nat) : FS := ⟨[.str, .str], [.str], fun (x : ByteArray × ByteArray) => strings_TrimLeft.f k x.1 x.2⟩
theorem ok : FnO Tryz.prog 79 37 Tryz.f79 2 := okF _ (by kernel_rfl) (by kernel_rfl)
theorem c (k : Nat) : Contract Tryz.prog 79 (fs k) :=
  fnS [.str, .str] [.str] ptL fns fgs0 fws0 (fun k (x : ByteArray × ByteArray) => strings_TrimLeft.f k x.1 x.2) ok ⟨⟨rfl, fun _ => rfl, fun k x => by kernel_rfl⟩, ⟨rfl, fun _ => rfl, fun k x => by kernel_rfl⟩, trivial⟩ (fun k x => by kernel_rfl) (fun k => ⟨⟨strings_trimLeftByte.c k, trivial⟩, trivial, trivial⟩) k
end strings_TrimLeft

namespace nat_Pow
def s5 : PSig := ⟨0, [], []⟩
def s0 : PSig := ⟨0, [], [(1, .val (.int .i64)), (6, .val tL), (7, .val tL)]⟩
def s19 : PSig := ⟨0, [], [(1, .val (.int .i64)), (6, .val tL), (7, .val tL)]⟩
def s13 : PSig := ⟨0, [], [(1, .val (.int .i64)), (6, .val tL), (7, .val tL)]⟩
def ptL : List (Pt (TD [tL, (.int .i64)])) := [⟨5, s5, fun k (x : Unit) => nat_Pow.p5 k x⟩, ⟨0, s0, fun k (x : Int × LX × LX) => nat_Pow.p0 k x.1 x.2.1 x.2.2⟩, ⟨19, s19, fun k (x : Int × LX × LX) => nat_Pow.p19 k x.1 x.2.1 x.2.2⟩, ⟨13, s13, fun k (x : Int × LX × LX) => nat_Pow.p13 k x.1 x.2.1 x.2.2⟩]
def fns : Nat → List (FuncId × FS) := fun k => [(59, nat_own.fs k), (25, nat_Mul.fs k)]
def fs (k : Nat) : FS := ⟨[tL, (.int .i64)], [tL, (.int .i64)], fun (x : LX × Int) => nat_Pow.f k x.1 x.2⟩
theorem ok : FnO Tryz.prog 106 33 Tryz.f106 2 := okF _ (by kernel_rfl) (by kernel_rfl)
theorem c (k : Nat) : Contract Tryz.prog 106 (fs k) :=
  fnS [tL, (.int .i64)] [tL, (.int .i64)] ptL fns fgs0 fws0 (fun k (x : LX × Int) => nat_Pow.f k x.1 x.2) ok ⟨⟨rfl, fun _ => rfl, fun k x => by kernel_rfl⟩, ⟨rfl, fun _ => rfl, fun k x => by kernel_rfl⟩, ⟨rfl, fun _ => rfl, fun k x => by kernel_rfl⟩, ⟨rfl, fun _ => rfl, fun k x => by kernel_rfl⟩, trivial⟩ (fun k x => by kernel_rfl) (fun k => ⟨⟨nat_own.c k, nat_Mul.c k, trivial⟩, trivial, trivial⟩) k
end nat_Pow

namespace ratio_ten
def s0 : PSig := ⟨0, [], [(0, .val (.int .i64)), (3, .val tL)]⟩
def ptL : List (Pt (TD [tL])) := [⟨0, s0, fun k (x : Int × LX) => ratio_ten.p0 k x.1 x.2⟩]
def fns : Nat → List (FuncId × FS) := fun k => [(106, nat_Pow.fs k), (25, nat_Mul.fs k)]
def fs (k : Nat) : FS := ⟨[(.int .i64)], [tL], fun (x : Int) => ratio_ten.f k x⟩
theorem ok : FnO Tryz.prog 80 24 Tryz.f80 1 := okF _ (by kernel_rfl) (by kernel_rfl)
theorem c (k : Nat) : Contract Tryz.prog 80 (fs k) :=
  fnS [(.int .i64)] [tL] ptL fns fgs0 fws0 (fun k (x : Int) => ratio_ten.f k x) ok ⟨⟨rfl, fun _ => rfl, fun k x => by kernel_rfl⟩, trivial⟩ (fun k x => by kernel_rfl) (fun k => ⟨⟨nat_Pow.c k, nat_Mul.c k, trivial⟩, trivial, trivial⟩) k
end ratio_ten

namespace ratio_Parse
def s15 : PSig := ⟨0, [(27, tQ, true)], [(2, .ptr 0 [])]⟩
def s25 : PSig := ⟨0, [(27, tQ, true)], [(2, .ptr 0 [])]⟩
def s27 : PSig := ⟨0, [(27, tQ, true)], [(2, .ptr 0 []), (5, .val .bool), (14, .val .str), (16, .val tL)]⟩
def s33 : PSig := ⟨0, [(27, tQ, true)], [(2, .ptr 0 []), (5, .val .bool), (14, .val .str), (16, .val tL), (18, .val .str)]⟩
def ptL : List (Pt (TD [tQ, (.int .i64)])) := [⟨15, s15, fun k (x : RX) => ratio_Parse.p15 k x⟩, ⟨25, s25, fun k (x : RX) => ratio_Parse.p25 k x⟩, ⟨27, s27, fun k (x : RX × Bool × ByteArray × LX) => ratio_Parse.p27 k x.1 x.2.1 x.2.2.1 x.2.2.2⟩, ⟨33, s33, fun k (x : RX × Bool × ByteArray × LX × ByteArray) => ratio_Parse.p33 k x.1 x.2.1 x.2.2.1 x.2.2.2.1 x.2.2.2.2⟩]
def fns : Nat → List (FuncId × FS) := fun k => [(76, strings_CutPrefix.fs k), (77, strings_Cut.fs k), (78, nat_Parse.fs k), (28, ratio_made.fs k), (79, strings_TrimLeft.fs k), (80, ratio_ten.fs k), (25, nat_Mul.fs k), (24, nat_Add.fs k)]
def fs (k : Nat) : FS := ⟨[.str], [tQ, (.int .i64)], fun (x : ByteArray) => ratio_Parse.f k x⟩
theorem ok : FnO Tryz.prog 41 105 Tryz.f41 1 := okF _ (by kernel_rfl) (by kernel_rfl)
theorem c (k : Nat) : Contract Tryz.prog 41 (fs k) :=
  fnS [.str] [tQ, (.int .i64)] ptL fns fgs0 fws0 (fun k (x : ByteArray) => ratio_Parse.f k x) ok ⟨⟨rfl, fun _ => rfl, fun k x => by kernel_rfl⟩, ⟨rfl, fun _ => rfl, fun k x => by kernel_rfl⟩, ⟨rfl, fun _ => rfl, fun k x => by kernel_rfl⟩, ⟨rfl, fun _ => rfl, fun k x => by kernel_rfl⟩, trivial⟩ (fun k x => by kernel_rfl) (fun k => ⟨⟨strings_CutPrefix.c k, strings_Cut.c k, nat_Parse.c k, ratio_made.c k, strings_TrimLeft.c k, ratio_ten.c k, nat_Mul.c k, nat_Add.c k, trivial⟩, trivial, trivial⟩) k
end ratio_Parse

namespace law03_half
def ptL : List (Pt (TD [.bool])) := []
def fns : Nat → List (FuncId × FS) := fun k => [(41, ratio_Parse.fs k), (9, law03_same.fs k)]
def fs (k : Nat) : FS := ⟨[], [.bool], fun (x : Unit) => law03_half.f k x⟩
theorem ok : FnO Tryz.prog 11 17 Tryz.f11 0 := okF _ (by kernel_rfl) (by kernel_rfl)
theorem c (k : Nat) : Contract Tryz.prog 11 (fs k) :=
  fnS [] [.bool] ptL fns fgs0 fws0 (fun k (x : Unit) => law03_half.f k x) ok trivial (fun k x => by kernel_rfl) (fun k => ⟨⟨ratio_Parse.c k, law03_same.c k, trivial⟩, trivial, trivial⟩) k
end law03_half

namespace law03_RatioNearest
def s9 : PSig := ⟨0, [], []⟩
def s11 : PSig := ⟨0, [], []⟩
def ptL : List (Pt (TD [.bool])) := [⟨9, s9, fun k (x : Unit) => law03_RatioNearest.p9 k x⟩, ⟨11, s11, fun k (x : Unit) => law03_RatioNearest.p11 k x⟩]
def fns : Nat → List (FuncId × FS) := fun k => [(6, law03_twin.fs k), (7, law03_nat.fs k), (5, ⟨[tQ, tL], [tQ, (.int .i64)], fun (x : RX × LX) => ratio_Best.f k x.1 x.2⟩), (8, ref03_Best.fs k), (9, law03_same.fs k), (10, law03_none.fs k), (11, law03_half.fs k)]
def fs (k : Nat) : FS := ⟨[tQ, tL], [.bool], fun (x : RX × LX) => law03_RatioNearest.f k x.1 x.2⟩
theorem ok : FnO Tryz.prog 3 46 Tryz.f3 2 := okF _ (by kernel_rfl) (by kernel_rfl)
theorem c (k : Nat) : Contract Tryz.prog 3 (fs k) :=
  fnS [tQ, tL] [.bool] ptL fns fgs0 fws0 (fun k (x : RX × LX) => law03_RatioNearest.f k x.1 x.2) ok ⟨⟨rfl, fun _ => rfl, fun k x => by kernel_rfl⟩, ⟨rfl, fun _ => rfl, fun k x => by kernel_rfl⟩, trivial⟩ (fun k x => by kernel_rfl) (fun k => ⟨⟨law03_twin.c k, law03_nat.c k, ratio_Best.c k, ref03_Best.c k, law03_same.c k, law03_none.c k, law03_half.c k, trivial⟩, trivial, trivial⟩) k
end law03_RatioNearest

namespace law03_RatioCloser
def s7 : PSig := ⟨0, [], []⟩
def ptL : List (Pt (TD [.bool])) := [⟨7, s7, fun k (x : Unit) => law03_RatioCloser.p7 k x⟩]
def fns : Nat → List (FuncId × FS) := fun k => [(6, law03_twin.fs k), (7, law03_nat.fs k), (5, ⟨[tQ, tL], [tQ, (.int .i64)], fun (x : RX × LX) => ratio_Best.f k x.1 x.2⟩), (12, ref01_Norm.fs k), (11, law03_half.fs k), (13, ref03_Norm.fs k), (14, ref01_Cmp.fs k), (15, ref03_Nearer.fs k)]
def fs (k : Nat) : FS := ⟨[tQ, tQ, tL], [.bool], fun (x : RX × RX × LX) => law03_RatioCloser.f k x.1 x.2.1 x.2.2⟩
theorem ok : FnO Tryz.prog 4 50 Tryz.f4 3 := okF _ (by kernel_rfl) (by kernel_rfl)
theorem c (k : Nat) : Contract Tryz.prog 4 (fs k) :=
  fnS [tQ, tQ, tL] [.bool] ptL fns fgs0 fws0 (fun k (x : RX × RX × LX) => law03_RatioCloser.f k x.1 x.2.1 x.2.2) ok ⟨⟨rfl, fun _ => rfl, fun k x => by kernel_rfl⟩, trivial⟩ (fun k x => by kernel_rfl) (fun k => ⟨⟨law03_twin.c k, law03_nat.c k, ratio_Best.c k, ref01_Norm.c k, law03_half.c k, ref03_Norm.c k, ref01_Cmp.c k, ref03_Nearer.c k, trivial⟩, trivial, trivial⟩) k
end law03_RatioCloser
end Go.Proofs.YtllpdchpjhgkgaaGreatDoor
