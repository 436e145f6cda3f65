/- Contracts, printed by fgen.py. -/
import Derived.Test.YtllpdchpjhgkgaaDoorPlm
import Derived.Test.YtllpdchpjhgkgaaDoorProg
import Derived.Test.YtllpdchpjhgkgaaDoorExm
namespace Go.Proofs.YtllpdchpjhgkgaaDoor
open Go.FK
theorem mix : Tryd.prog.follows .mixedOrders = true ∧ ArrsOk Tryd.prog := ⟨by kernel_rfl, arrsB_ok (by kernel_rfl)⟩
def tyTab : List (TypeId × TI) := [(2, ⟨(.int .i64), 0, 0⟩), (3, ⟨(.int .i64), 0, 0⟩), (4, ⟨.bool, 0, 0⟩), (5, ⟨(.int .u8), 0, 0⟩), (9, ⟨.str, 0, 0⟩), (21, ⟨(.int .i32), 0, 0⟩), (23, ⟨(.list (.int .u32)), 40, 4⟩), (25, ⟨(.st (.pair .bool (.list (.int .u32)))), 0, 0⟩), (27, ⟨(.st (.pair (.st (.pair .bool (.list (.int .u32)))) (.list (.int .u32)))), 0, 0⟩), (29, ⟨(.int .i64), 0, 0⟩), (34, ⟨(.list (.st (.pair .bool (.list (.int .u32))))), 25, 32⟩), (40, ⟨(.int .u32), 0, 0⟩), (67, ⟨(.int .u64), 0, 0⟩), (97, ⟨(.list (.int .u8)), 5, 1⟩), (103, ⟨(.list (.int .i64)), 3, 8⟩), (109, ⟨.nilI, 0, 0⟩)]
theorem tyOk : tysB Tryd.prog tyTab = true := by kernel_rfl

abbrev tL : Ty := .list (.int .u32)
abbrev tZ : Ty := .st (.pair .bool (.list (.int .u32)))
abbrev tQ : Ty := .st (.pair (.st (.pair .bool (.list (.int .u32)))) (.list (.int .u32)))
def fws0 : Nat → List (FuncId × FW) := fun _ => []
def fns0 : Nat → List (FuncId × FS) := fun _ => []
def fgs0 : Nat → List (FuncId × FG) := fun _ => []
abbrev FnO (P : Program) (f : FuncId) (n : Nat) (fn : Func) (np : Nat) : Prop := FnOk P f n fn.results.toList (fn.body.getD .skip) np
theorem okF {P : Program} {f : FuncId} {n np : Nat} (fn : Func) (h : P.funcs[f]? = some fn) (hb : (fn.body.isSome && (fn.ntmps == n && (!(fn.name == "runtime.NumGoroutine") && (Go.FK.distinct (ptsOf 0 (fn.body.getD .skip)) && Nat.ble np n)))) = true) : FnO P f n fn np := by
  simp only [Bool.and_eq_true, Bool.not_eq_true', beq_iff_eq, Nat.ble_eq] at hb
  obtain ⟨h1, h2, h3, h4, h5⟩ := hb
  refine ⟨⟨fn, h, ?_, h2, rfl, h3⟩, h4, h5⟩
  cases hc : fn.body with
  | none => rw [hc] at h1; cases h1
  | some c => rfl
theorem fnS (ps rs : List Ty) (pts : List (Pt (TD rs))) (fns : Nat → List (FuncId × FS)) (fgs : Nat → List (FuncId × FG)) (fws : Nat → List (FuncId × FW)) (main : Nat → TD ps → Option (TD rs)) {f : FuncId} {n : Nat} {rv : List ResultVar} {c : Code} (hf : FnOk Tryd.prog f n rv c ps.length) (hpt : PtsOk (mkE tyTab fns fgs fws pts) 0 n (endK (lookT tyTab) rv rs) c pts) (hmain : ∀ k x, fnK (mkE tyTab fns fgs fws pts k) n rv c (encT ps x) = main k x) (hall : ∀ k, AllK Tryd.prog (fns k) (fgs k) (fws k)) (k : Nat) : Contract Tryd.prog f ⟨ps, rs, main k⟩ := fn_sound hf mix tyOk hpt hmain hall k

namespace law03_within
def s5 : PSig := ⟨0, [(27, tQ, true)], [(2, .ptr 0 [])]⟩
def ptL : List (Pt (TD [tQ])) := [⟨5, s5, fun k (x : RX) => law03_within.p5 k x⟩]
def fs (k : Nat) : FS := ⟨[tQ], [tQ], fun (x : RX) => law03_within.f k x⟩
theorem ok : FnO Tryd.prog 4 16 Tryd.f4 1 := okF _ (by kernel_rfl) (by kernel_rfl)
theorem c (k : Nat) : Contract Tryd.prog 4 (fs k) :=
  fnS [tQ] [tQ] ptL fns0 fgs0 fws0 (fun k (x : RX) => law03_within.f k x) ok ⟨⟨rfl, fun _ => rfl, fun k x => by kernel_rfl⟩, trivial⟩ (fun k x => by kernel_rfl) (fun _ => ⟨trivial, trivial, trivial⟩) k
end law03_within

namespace law03_nat
def s0 : PSig := ⟨0, [(40, (.int .u32), false)], [(0, .val tL), (3, .own 0), (4, .val (.int .i64))]⟩
def ptL : List (Pt (TD [tL])) := [⟨0, s0, fun k (x : LX × LX × Int) => law03_nat.p0 k x.1 x.2.1 x.2.2⟩]
def fs (k : Nat) : FS := ⟨[tL], [tL], fun (x : LX) => law03_nat.f k x⟩
theorem ok : FnO Tryd.prog 16 22 Tryd.f16 1 := okF _ (by kernel_rfl) (by kernel_rfl)
theorem c (k : Nat) : Contract Tryd.prog 16 (fs k) :=
  fnS [tL] [tL] ptL fns0 fgs0 fws0 (fun k (x : LX) => law03_nat.f k x) ok ⟨⟨rfl, fun _ => rfl, fun k x => by kernel_rfl⟩, trivial⟩ (fun k x => by kernel_rfl) (fun _ => ⟨trivial, trivial, trivial⟩) k
end law03_nat

namespace law03_whole
def ptL : List (Pt (TD [tZ])) := []
def fns : Nat → List (FuncId × FS) := fun k => [(16, law03_nat.fs k)]
def fs (k : Nat) : FS := ⟨[tZ], [tZ], fun (x : ZX) => law03_whole.f k x⟩
theorem ok : FnO Tryd.prog 15 9 Tryd.f15 1 := okF _ (by kernel_rfl) (by kernel_rfl)
theorem c (k : Nat) : Contract Tryd.prog 15 (fs k) :=
  fnS [tZ] [tZ] ptL fns fgs0 fws0 (fun k (x : ZX) => law03_whole.f k x) ok trivial (fun k x => by kernel_rfl) (fun k => ⟨⟨law03_nat.c k, trivial⟩, trivial, trivial⟩) k
end law03_whole

namespace law03_twin
def ptL : List (Pt (TD [tQ])) := []
def fns : Nat → List (FuncId × FS) := fun k => [(15, law03_whole.fs k), (16, law03_nat.fs k)]
def fs (k : Nat) : FS := ⟨[tQ], [tQ], fun (x : RX) => law03_twin.f k x⟩
theorem ok : FnO Tryd.prog 6 10 Tryd.f6 1 := okF _ (by kernel_rfl) (by kernel_rfl)
theorem c (k : Nat) : Contract Tryd.prog 6 (fs k) :=
  fnS [tQ] [tQ] ptL fns fgs0 fws0 (fun k (x : RX) => law03_twin.f k x) ok trivial (fun k x => by kernel_rfl) (fun k => ⟨⟨law03_whole.c k, law03_nat.c k, trivial⟩, trivial, trivial⟩) k
end law03_twin

namespace nat_trim
def s0 : PSig := ⟨0, [], [(0, .val tL), (3, .val (.int .i64))]⟩
def s9 : PSig := ⟨0, [], [(0, .val tL), (3, .val (.int .i64))]⟩
def ptL : List (Pt (TD [tL])) := [⟨0, s0, fun k (x : LX × Int) => nat_trim.p0 k x.1 x.2⟩, ⟨9, s9, fun k (x : LX × Int) => nat_trim.p9 k x.1 x.2⟩]
def fs (k : Nat) : FS := ⟨[tL], [tL], fun (x : LX) => nat_trim.f k x⟩
theorem ok : FnO Tryd.prog 33 21 Tryd.f33 1 := okF _ (by kernel_rfl) (by kernel_rfl)
theorem c (k : Nat) : Contract Tryd.prog 33 (fs k) :=
  fnS [tL] [tL] ptL fns0 fgs0 fws0 (fun k (x : LX) => nat_trim.f k x) ok ⟨⟨rfl, fun _ => rfl, fun k x => by kernel_rfl⟩, ⟨rfl, fun _ => rfl, fun k x => by kernel_rfl⟩, trivial⟩ (fun k x => by kernel_rfl) (fun _ => ⟨trivial, trivial, trivial⟩) k
end nat_trim

namespace bits_Len32
def s9 : PSig := ⟨0, [], [(0, .val (.int .u32)), (2, .val (.int .i64))]⟩
def s15 : PSig := ⟨0, [], [(0, .val (.int .u32)), (2, .val (.int .i64))]⟩
def ptL : List (Pt (TD [(.int .i64)])) := [⟨9, s9, fun k (x : Int × Int) => bits_Len32.p9 k x.1 x.2⟩, ⟨15, s15, fun k (x : Int × Int) => bits_Len32.p15 k x.1 x.2⟩]
def fs (k : Nat) : FS := ⟨[(.int .u32)], [(.int .i64)], fun (x : Int) => bits_Len32.f k x⟩
theorem ok : FnO Tryd.prog 34 19 Tryd.f34 1 := okF _ (by kernel_rfl) (by kernel_rfl)
theorem c (k : Nat) : Contract Tryd.prog 34 (fs k) :=
  fnS [(.int .u32)] [(.int .i64)] ptL fns0 fgs0 fws0 (fun k (x : Int) => bits_Len32.f k x) ok ⟨⟨rfl, fun _ => rfl, fun k x => by kernel_rfl⟩, ⟨rfl, fun _ => rfl, fun k x => by kernel_rfl⟩, trivial⟩ (fun k x => by kernel_rfl) (fun _ => ⟨trivial, trivial, trivial⟩) k
end bits_Len32

namespace nat_Bits
def ptL : List (Pt (TD [(.int .i64)])) := []
def fns : Nat → List (FuncId × FS) := fun k => [(33, nat_trim.fs k), (34, bits_Len32.fs k)]
def fs (k : Nat) : FS := ⟨[tL], [(.int .i64)], fun (x : LX) => nat_Bits.f k x⟩
theorem ok : FnO Tryd.prog 13 20 Tryd.f13 1 := okF _ (by kernel_rfl) (by kernel_rfl)
theorem c (k : Nat) : Contract Tryd.prog 13 (fs k) :=
  fnS [tL] [(.int .i64)] ptL fns fgs0 fws0 (fun k (x : LX) => nat_Bits.f k x) ok trivial (fun k x => by kernel_rfl) (fun k => ⟨⟨nat_trim.c k, bits_Len32.c k, trivial⟩, trivial, trivial⟩) k
end nat_Bits

namespace nat_own
def ptL : List (Pt (TD [tL])) := []
def fns : Nat → List (FuncId × FS) := fun k => [(33, nat_trim.fs k)]
def fs (k : Nat) : FS := ⟨[tL], [tL], fun (x : LX) => nat_own.f k x⟩
theorem ok : FnO Tryd.prog 40 16 Tryd.f40 1 := okF _ (by kernel_rfl) (by kernel_rfl)
theorem c (k : Nat) : Contract Tryd.prog 40 (fs k) :=
  fnS [tL] [tL] ptL fns fgs0 fws0 (fun k (x : LX) => nat_own.f k x) ok trivial (fun k x => by kernel_rfl) (fun k => ⟨⟨nat_trim.c k, trivial⟩, trivial, trivial⟩) k
def fw (k : Nat) : FW := ⟨[tL], 40, (.int .u32), false, fun (x : LX) => nat_own.f k x⟩
def ptW : List (Pt (List (Ty.D (.int .u32)))) := []
theorem cw (k : Nat) : ContractW Tryd.prog 40 (fw k) :=
  fn_soundW (ps := [tL]) (e := 40) (t := (.int .u32)) (bx := false) (pts := ptW) (fns := fns) (fgs := fgs0) (fws := fws0) (tys := tyTab) (main := fun k (x : LX) => nat_own.f k x) ok mix tyOk trivial (fun k x => by kernel_rfl) (fun k => ⟨⟨nat_trim.c k, trivial⟩, trivial, trivial⟩) k
end nat_own

namespace nat_Cmp
def s0 : PSig := ⟨0, [], [(0, .val tL), (1, .val tL), (5, .val (.int .i64))]⟩
def ptL : List (Pt (TD [(.int .i64)])) := [⟨0, s0, fun k (x : LX × LX × Int) => nat_Cmp.p0 k x.1 x.2.1 x.2.2⟩]
def fns : Nat → List (FuncId × FS) := fun k => [(33, nat_trim.fs k)]
def fs (k : Nat) : FS := ⟨[tL, tL], [(.int .i64)], fun (x : LX × LX) => nat_Cmp.f k x.1 x.2⟩
theorem ok : FnO Tryd.prog 25 45 Tryd.f25 2 := okF _ (by kernel_rfl) (by kernel_rfl)
theorem c (k : Nat) : Contract Tryd.prog 25 (fs k) :=
  fnS [tL, tL] [(.int .i64)] ptL fns fgs0 fws0 (fun k (x : LX × LX) => nat_Cmp.f k x.1 x.2) ok ⟨⟨rfl, fun _ => rfl, fun k x => by kernel_rfl⟩, trivial⟩ (fun k x => by kernel_rfl) (fun k => ⟨⟨nat_trim.c k, trivial⟩, trivial, trivial⟩) k
end nat_Cmp

namespace bits_Div32
def s7 : PSig := ⟨0, [], [(0, .val (.int .u32)), (1, .val (.int .u32)), (2, .val (.int .u32))]⟩
def ptL : List (Pt (TD [(.int .u32), (.int .u32)])) := [⟨7, s7, fun k (x : Int × Int × Int) => bits_Div32.p7 k x.1 x.2.1 x.2.2⟩]
def fs (k : Nat) : FS := ⟨[(.int .u32), (.int .u32), (.int .u32)], [(.int .u32), (.int .u32)], fun (x : Int × Int × Int) => bits_Div32.f k x.1 x.2.1 x.2.2⟩
theorem ok : FnO Tryd.prog 68 33 Tryd.f68 3 := okF _ (by kernel_rfl) (by kernel_rfl)
theorem c (k : Nat) : Contract Tryd.prog 68 (fs k) :=
  fnS [(.int .u32), (.int .u32), (.int .u32)] [(.int .u32), (.int .u32)] ptL fns0 fgs0 fws0 (fun k (x : Int × Int × Int) => bits_Div32.f k x.1 x.2.1 x.2.2) ok ⟨⟨rfl, fun _ => rfl, fun k x => by kernel_rfl⟩, trivial⟩ (fun k x => by kernel_rfl) (fun _ => ⟨trivial, trivial, trivial⟩) k
end bits_Div32

namespace nat_short
def s0 : PSig := ⟨0, [(40, (.int .u32), false)], [(0, .val tL), (1, .val (.int .u32)), (6, .own 0), (7, .val (.int .u32)), (8, .val (.int .i64))]⟩
def ptL : List (Pt (TD [tL, (.int .u32)])) := [⟨0, s0, fun k (x : LX × LX × Int × Int × Int) => nat_short.p0 k x.1 x.2.1 x.2.2.1 x.2.2.2.1 x.2.2.2.2⟩]
def fns : Nat → List (FuncId × FS) := fun k => [(68, bits_Div32.fs k)]
def fs (k : Nat) : FS := ⟨[tL, (.int .u32)], [tL, (.int .u32)], fun (x : LX × Int) => nat_short.f k x.1 x.2⟩
theorem ok : FnO Tryd.prog 56 34 Tryd.f56 2 := okF _ (by kernel_rfl) (by kernel_rfl)
theorem c (k : Nat) : Contract Tryd.prog 56 (fs k) :=
  fnS [tL, (.int .u32)] [tL, (.int .u32)] ptL fns fgs0 fws0 (fun k (x : LX × Int) => nat_short.f k x.1 x.2) ok ⟨⟨rfl, fun _ => rfl, fun k x => by kernel_rfl⟩, trivial⟩ (fun k x => by kernel_rfl) (fun k => ⟨⟨bits_Div32.c k, trivial⟩, trivial, trivial⟩) k
end nat_short

namespace bits_LeadingZeros32
def ptL : List (Pt (TD [(.int .i64)])) := []
def fns : Nat → List (FuncId × FS) := fun k => [(34, bits_Len32.fs k)]
def fs (k : Nat) : FS := ⟨[(.int .u32)], [(.int .i64)], fun (x : Int) => bits_LeadingZeros32.f k x⟩
theorem ok : FnO Tryd.prog 69 6 Tryd.f69 1 := okF _ (by kernel_rfl) (by kernel_rfl)
theorem c (k : Nat) : Contract Tryd.prog 69 (fs k) :=
  fnS [(.int .u32)] [(.int .i64)] ptL fns fgs0 fws0 (fun k (x : Int) => bits_LeadingZeros32.f k x) ok trivial (fun k x => by kernel_rfl) (fun k => ⟨⟨bits_Len32.c k, trivial⟩, trivial, trivial⟩) k
end bits_LeadingZeros32

namespace nat_moved
def s0 : PSig := ⟨0, [(40, (.int .u32), false)], [(0, .val tL), (1, .val (.int .i64)), (5, .own 0), (12, .val (.int .i64)), (13, .val (.int .i64))]⟩
def ptL : List (Pt (TD [tL])) := [⟨0, s0, fun k (x : LX × LX × Int × Int × Int) => nat_moved.p0 k x.1 x.2.1 x.2.2.1 x.2.2.2.1 x.2.2.2.2⟩]
def fs (k : Nat) : FS := ⟨[tL, (.int .i64)], [tL], fun (x : LX × Int) => nat_moved.f k x.1 x.2⟩
theorem ok : FnO Tryd.prog 70 43 Tryd.f70 2 := okF _ (by kernel_rfl) (by kernel_rfl)
theorem c (k : Nat) : Contract Tryd.prog 70 (fs k) :=
  fnS [tL, (.int .i64)] [tL] ptL fns0 fgs0 fws0 (fun k (x : LX × Int) => nat_moved.f k x.1 x.2) ok ⟨⟨rfl, fun _ => rfl, fun k x => by kernel_rfl⟩, trivial⟩ (fun k x => by kernel_rfl) (fun _ => ⟨trivial, trivial, trivial⟩) k
def fw (k : Nat) : FW := ⟨[tL, (.int .i64)], 40, (.int .u32), false, fun (x : LX × Int) => nat_moved.f k x.1 x.2⟩
def ptW : List (Pt (List (Ty.D (.int .u32)))) := [⟨0, s0, fun k (x : LX × LX × Int × Int × Int) => nat_moved.p0 k x.1 x.2.1 x.2.2.1 x.2.2.2.1 x.2.2.2.2⟩]
theorem cw (k : Nat) : ContractW Tryd.prog 70 (fw k) :=
  fn_soundW (ps := [tL, (.int .i64)]) (e := 40) (t := (.int .u32)) (bx := false) (pts := ptW) (fns := fns0) (fgs := fgs0) (fws := fws0) (tys := tyTab) (main := fun k (x : LX × Int) => nat_moved.f k x.1 x.2) ok mix tyOk ⟨⟨rfl, fun _ => rfl, fun k x => by kernel_rfl⟩, trivial⟩ (fun k x => by kernel_rfl) (fun _ => ⟨trivial, trivial, trivial⟩) k
end nat_moved

namespace bits_Sub32
def ptL : List (Pt (TD [(.int .u32), (.int .u32)])) := []
def fs (k : Nat) : FS := ⟨[(.int .u32), (.int .u32), (.int .u32)], [(.int .u32), (.int .u32)], fun (x : Int × Int × Int) => bits_Sub32.f k x.1 x.2.1 x.2.2⟩
theorem ok : FnO Tryd.prog 79 25 Tryd.f79 3 := okF _ (by kernel_rfl) (by kernel_rfl)
theorem c (k : Nat) : Contract Tryd.prog 79 (fs k) :=
  fnS [(.int .u32), (.int .u32), (.int .u32)] [(.int .u32), (.int .u32)] ptL fns0 fgs0 fws0 (fun k (x : Int × Int × Int) => bits_Sub32.f k x.1 x.2.1 x.2.2) ok trivial (fun k x => by kernel_rfl) (fun _ => ⟨trivial, trivial, trivial⟩) k
end bits_Sub32

namespace bits_Add32
def ptL : List (Pt (TD [(.int .u32), (.int .u32)])) := []
def fs (k : Nat) : FS := ⟨[(.int .u32), (.int .u32), (.int .u32)], [(.int .u32), (.int .u32)], fun (x : Int × Int × Int) => bits_Add32.f k x.1 x.2.1 x.2.2⟩
theorem ok : FnO Tryd.prog 46 22 Tryd.f46 3 := okF _ (by kernel_rfl) (by kernel_rfl)
theorem c (k : Nat) : Contract Tryd.prog 46 (fs k) :=
  fnS [(.int .u32), (.int .u32), (.int .u32)] [(.int .u32), (.int .u32)] ptL fns0 fgs0 fws0 (fun k (x : Int × Int × Int) => bits_Add32.f k x.1 x.2.1 x.2.2) ok trivial (fun k x => by kernel_rfl) (fun _ => ⟨trivial, trivial, trivial⟩) k
end bits_Add32

namespace nat_digit
def s0 : PSig := ⟨1, [(40, (.int .u32), false)], [(0, .win 0), (1, .val tL), (5, .val (.int .i64)), (7, .val (.int .u64)), (8, .val (.int .u64))]⟩
def s11 : PSig := ⟨1, [(40, (.int .u32), false)], [(0, .win 0), (1, .val tL), (5, .val (.int .i64)), (7, .val (.int .u64)), (8, .val (.int .u64))]⟩
def s4 : PSig := ⟨1, [(40, (.int .u32), false)], [(0, .win 0), (1, .val tL), (5, .val (.int .i64)), (7, .val (.int .u64)), (9, .val (.int .u32)), (10, .val (.int .u64)), (82, .val (.int .i64)), (83, .val (.int .i64))]⟩
def s8 : PSig := ⟨1, [(40, (.int .u32), false)], [(0, .win 0), (1, .val tL), (5, .val (.int .i64)), (7, .val (.int .u64)), (13, .val (.int .u32)), (130, .val (.int .i64)), (131, .val (.int .i64))]⟩
def ptL : List (Pt (TD ([.win 40 (.int .u32), .val tL].flatMap PK.outs ++ [(.int .u32)]))) := [⟨0, s0, fun k (x : LX × Nat × Nat × LX × Int × Int × Int) => nat_digit.p0 k x.1 x.2.1 x.2.2.1 x.2.2.2.1 x.2.2.2.2.1 x.2.2.2.2.2.1 x.2.2.2.2.2.2⟩, ⟨11, s11, fun k (x : LX × Nat × Nat × LX × Int × Int × Int) => nat_digit.p11 k x.1 x.2.1 x.2.2.1 x.2.2.2.1 x.2.2.2.2.1 x.2.2.2.2.2.1 x.2.2.2.2.2.2⟩, ⟨4, s4, fun k (x : LX × Nat × Nat × LX × Int × Int × Int × Int × Int × Int) => nat_digit.p4 k x.1 x.2.1 x.2.2.1 x.2.2.2.1 x.2.2.2.2.1 x.2.2.2.2.2.1 x.2.2.2.2.2.2.1 x.2.2.2.2.2.2.2.1 x.2.2.2.2.2.2.2.2.1 x.2.2.2.2.2.2.2.2.2⟩, ⟨8, s8, fun k (x : LX × Nat × Nat × LX × Int × Int × Int × Int × Int) => nat_digit.p8 k x.1 x.2.1 x.2.2.1 x.2.2.2.1 x.2.2.2.2.1 x.2.2.2.2.2.1 x.2.2.2.2.2.2.1 x.2.2.2.2.2.2.2.1 x.2.2.2.2.2.2.2.2⟩]
def fns : Nat → List (FuncId × FS) := fun k => [(79, bits_Sub32.fs k), (46, bits_Add32.fs k)]
def fg (k : Nat) : FG := ⟨[.win 40 (.int .u32), .val tL], [(.int .u32)], none, fun (x : LX × Nat × Nat × LX) => nat_digit.f k x.1 x.2.1 x.2.2.1 x.2.2.2⟩
theorem ok : FnO Tryd.prog 71 160 Tryd.f71 2 := okF _ (by kernel_rfl) (by kernel_rfl)
theorem c (k : Nat) : ContractG Tryd.prog 71 (fg k) :=
  fn_soundG (ps := [.win 40 (.int .u32), .val tL]) (rs := [(.int .u32)]) (pts := ptL) (fns := fns) (fgs := fgs0) (fws := fws0) (tys := tyTab) (main := fun k (x : LX × Nat × Nat × LX) => nat_digit.f k x.1 x.2.1 x.2.2.1 x.2.2.2) ok rfl mix tyOk ⟨⟨rfl, fun _ => rfl, fun k x => by kernel_rfl⟩, ⟨rfl, fun _ => rfl, fun k x => by kernel_rfl⟩, ⟨rfl, fun _ => rfl, fun k x => by kernel_rfl⟩, ⟨rfl, fun _ => rfl, fun k x => by kernel_rfl⟩, trivial⟩ (fun k x => by kernel_rfl) (fun k => ⟨⟨bits_Sub32.c k, bits_Add32.c k, trivial⟩, trivial, trivial⟩) k
end nat_digit

namespace nat_long
def s0 : PSig := ⟨0, [(40, (.int .u32), false), (40, (.int .u32), false)], [(6, .val (.int .i64)), (7, .val tL), (8, .own 0), (9, .val (.int .i64)), (10, .own 1), (11, .val (.int .i64))]⟩
def s4 : PSig := ⟨0, [(40, (.int .u32), false), (40, (.int .u32), false), (40, (.int .u32), false)], [(6, .val (.int .i64)), (8, .own 0), (10, .own 1), (12, .own 2), (60, .val (.int .i64)), (61, .val (.int .i64))]⟩
def fws : Nat → List (FuncId × FW) := fun k => [(70, ⟨[tL, (.int .i64)], 40, (.int .u32), false, fun (x : LX × Int) => nat_moved.f k x.1 x.2⟩), (40, ⟨[tL], 40, (.int .u32), false, fun (x : LX) => nat_own.f k x⟩)]
def ptL : List (Pt (TD [tL, tL])) := [⟨0, s0, fun k (x : LX × LX × Int × LX × Int × Int) => nat_long.p0 k x.1 x.2.1 x.2.2.1 x.2.2.2.1 x.2.2.2.2.1 x.2.2.2.2.2⟩, ⟨4, s4, fun k (x : LX × LX × LX × Int × Int × Int) => nat_long.p4 k x.1 x.2.1 x.2.2.1 x.2.2.2.1 x.2.2.2.2.1 x.2.2.2.2.2⟩]
def fns : Nat → List (FuncId × FS) := fun k => [(69, bits_LeadingZeros32.fs k)]
def fgs : Nat → List (FuncId × FG) := fun k => [(71, ⟨[.win 40 (.int .u32), .val tL], [(.int .u32)], none, fun (x : LX × Nat × Nat × LX) => nat_digit.f k x.1 x.2.1 x.2.2.1 x.2.2.2⟩)]
def fs (k : Nat) : FS := ⟨[tL, tL], [tL, tL], fun (x : LX × LX) => nat_long.f k x.1 x.2⟩
theorem ok : FnO Tryd.prog 57 89 Tryd.f57 2 := okF _ (by kernel_rfl) (by kernel_rfl)
theorem c (k : Nat) : Contract Tryd.prog 57 (fs k) :=
  fnS [tL, tL] [tL, tL] ptL fns fgs fws (fun k (x : LX × LX) => nat_long.f k x.1 x.2) ok ⟨⟨rfl, fun _ => rfl, fun k x => by kernel_rfl⟩, ⟨rfl, fun _ => rfl, fun k x => by kernel_rfl⟩, trivial⟩ (fun k x => by kernel_rfl) (fun k => ⟨⟨bits_LeadingZeros32.c k, trivial⟩, ⟨nat_digit.c k, trivial⟩, ⟨nat_moved.cw k, nat_own.cw k, trivial⟩⟩) k
end nat_long

namespace nat_Div
def ptL : List (Pt (TD [tL, tL, (.int .i64)])) := []
def fns : Nat → List (FuncId × FS) := fun k => [(33, nat_trim.fs k), (25, nat_Cmp.fs k), (40, nat_own.fs k), (56, nat_short.fs k), (57, nat_long.fs k)]
def fs (k : Nat) : FS := ⟨[tL, tL], [tL, tL, (.int .i64)], fun (x : LX × LX) => nat_Div.f k x.1 x.2⟩
theorem ok : FnO Tryd.prog 36 51 Tryd.f36 2 := okF _ (by kernel_rfl) (by kernel_rfl)
theorem c (k : Nat) : Contract Tryd.prog 36 (fs k) :=
  fnS [tL, tL] [tL, tL, (.int .i64)] ptL fns fgs0 fws0 (fun k (x : LX × LX) => nat_Div.f k x.1 x.2) ok trivial (fun k x => by kernel_rfl) (fun k => ⟨⟨nat_trim.c k, nat_Cmp.c k, nat_own.c k, nat_short.c k, nat_long.c k, trivial⟩, trivial, trivial⟩) k
end nat_Div

namespace nat_Gcd
def s0 : PSig := ⟨0, [], [(0, .val tL), (1, .val tL)]⟩
def ptL : List (Pt (TD [tL])) := [⟨0, s0, fun k (x : LX × LX) => nat_Gcd.p0 k x.1 x.2⟩]
def fns : Nat → List (FuncId × FS) := fun k => [(40, nat_own.fs k), (36, nat_Div.fs k)]
def fs (k : Nat) : FS := ⟨[tL, tL], [tL], fun (x : LX × LX) => nat_Gcd.f k x.1 x.2⟩
theorem ok : FnO Tryd.prog 35 25 Tryd.f35 2 := okF _ (by kernel_rfl) (by kernel_rfl)
theorem c (k : Nat) : Contract Tryd.prog 35 (fs k) :=
  fnS [tL, tL] [tL] ptL fns fgs0 fws0 (fun k (x : LX × LX) => nat_Gcd.f k x.1 x.2) ok ⟨⟨rfl, fun _ => rfl, fun k x => by kernel_rfl⟩, trivial⟩ (fun k x => by kernel_rfl) (fun k => ⟨⟨nat_own.c k, nat_Div.c k, trivial⟩, trivial, trivial⟩) k
end nat_Gcd

namespace whole_core
def s0 : PSig := ⟨0, [], [(0, .val tL), (3, .val (.int .i64))]⟩
def s9 : PSig := ⟨0, [], [(0, .val tL), (3, .val (.int .i64))]⟩
def ptL : List (Pt (TD [tL])) := [⟨0, s0, fun k (x : LX × Int) => whole_core.p0 k x.1 x.2⟩, ⟨9, s9, fun k (x : LX × Int) => whole_core.p9 k x.1 x.2⟩]
def fs (k : Nat) : FS := ⟨[tL], [tL], fun (x : LX) => whole_core.f k x⟩
theorem ok : FnO Tryd.prog 48 22 Tryd.f48 1 := okF _ (by kernel_rfl) (by kernel_rfl)
theorem c (k : Nat) : Contract Tryd.prog 48 (fs k) :=
  fnS [tL] [tL] ptL fns0 fgs0 fws0 (fun k (x : LX) => whole_core.f k x) ok ⟨⟨rfl, fun _ => rfl, fun k x => by kernel_rfl⟩, ⟨rfl, fun _ => rfl, fun k x => by kernel_rfl⟩, trivial⟩ (fun k x => by kernel_rfl) (fun _ => ⟨trivial, trivial, trivial⟩) k
end whole_core

namespace whole_Sign
def ptL : List (Pt (TD [(.int .i64)])) := []
def fns : Nat → List (FuncId × FS) := fun k => [(48, whole_core.fs k)]
def fs (k : Nat) : FS := ⟨[tZ], [(.int .i64)], fun (x : ZX) => whole_Sign.f k x⟩
theorem ok : FnO Tryd.prog 27 12 Tryd.f27 1 := okF _ (by kernel_rfl) (by kernel_rfl)
theorem c (k : Nat) : Contract Tryd.prog 27 (fs k) :=
  fnS [tZ] [(.int .i64)] ptL fns fgs0 fws0 (fun k (x : ZX) => whole_Sign.f k x) ok trivial (fun k x => by kernel_rfl) (fun k => ⟨⟨whole_core.c k, trivial⟩, trivial, trivial⟩) k
end whole_Sign

namespace nat_Norm
def ptL : List (Pt (TD [tL])) := []
def fns : Nat → List (FuncId × FS) := fun k => [(40, nat_own.fs k)]
def fs (k : Nat) : FS := ⟨[tL], [tL], fun (x : LX) => nat_Norm.f k x⟩
theorem ok : FnO Tryd.prog 72 5 Tryd.f72 1 := okF _ (by kernel_rfl) (by kernel_rfl)
theorem c (k : Nat) : Contract Tryd.prog 72 (fs k) :=
  fnS [tL] [tL] ptL fns fgs0 fws0 (fun k (x : LX) => nat_Norm.f k x) ok trivial (fun k x => by kernel_rfl) (fun k => ⟨⟨nat_own.c k, trivial⟩, trivial, trivial⟩) k
end nat_Norm

namespace whole_signed
def s0 : PSig := ⟨0, [(25, tZ, true)], [(0, .val tL), (4, .ptr 0 []), (5, .val (.int .i64)), (10, .val (.list (.int .i64))), (11, .val (.int .i64)), (12, .val (.int .i64))]⟩
def ptL : List (Pt (TD [tZ])) := [⟨0, s0, fun k (x : ZX × LX × Int × LX × Int × Int) => whole_signed.p0 k x.1 x.2.1 x.2.2.1 x.2.2.2.1 x.2.2.2.2.1 x.2.2.2.2.2⟩]
def fns : Nat → List (FuncId × FS) := fun k => [(72, nat_Norm.fs k)]
def fs (k : Nat) : FS := ⟨[tL, (.list (.int .i64))], [tZ], fun (x : LX × LX) => whole_signed.f k x.1 x.2⟩
theorem ok : FnO Tryd.prog 58 29 Tryd.f58 2 := okF _ (by kernel_rfl) (by kernel_rfl)
theorem c (k : Nat) : Contract Tryd.prog 58 (fs k) :=
  fnS [tL, (.list (.int .i64))] [tZ] ptL fns fgs0 fws0 (fun k (x : LX × LX) => whole_signed.f k x.1 x.2) ok ⟨⟨rfl, fun _ => rfl, fun k x => by kernel_rfl⟩, trivial⟩ (fun k x => by kernel_rfl) (fun k => ⟨⟨nat_Norm.c k, trivial⟩, trivial, trivial⟩) k
end whole_signed

namespace whole_Norm
def ptL : List (Pt (TD [tZ])) := []
def fns : Nat → List (FuncId × FS) := fun k => [(27, whole_Sign.fs k), (58, whole_signed.fs k)]
def fs (k : Nat) : FS := ⟨[tZ], [tZ], fun (x : ZX) => whole_Norm.f k x⟩
theorem ok : FnO Tryd.prog 37 9 Tryd.f37 1 := okF _ (by kernel_rfl) (by kernel_rfl)
theorem c (k : Nat) : Contract Tryd.prog 37 (fs k) :=
  fnS [tZ] [tZ] ptL fns fgs0 fws0 (fun k (x : ZX) => whole_Norm.f k x) ok trivial (fun k x => by kernel_rfl) (fun k => ⟨⟨whole_Sign.c k, whole_signed.c k, trivial⟩, trivial, trivial⟩) k
end whole_Norm

namespace ratio_made
def ptL : List (Pt (TD [tQ])) := []
def fns : Nat → List (FuncId × FS) := fun k => [(35, nat_Gcd.fs k), (36, nat_Div.fs k), (37, whole_Norm.fs k)]
def fs (k : Nat) : FS := ⟨[tZ, tL], [tQ], fun (x : ZX × LX) => ratio_made.f k x.1 x.2⟩
theorem ok : FnO Tryd.prog 14 38 Tryd.f14 2 := okF _ (by kernel_rfl) (by kernel_rfl)
theorem c (k : Nat) : Contract Tryd.prog 14 (fs k) :=
  fnS [tZ, tL] [tQ] ptL fns fgs0 fws0 (fun k (x : ZX × LX) => ratio_made.f k x.1 x.2) ok trivial (fun k x => by kernel_rfl) (fun k => ⟨⟨nat_Gcd.c k, nat_Div.c k, whole_Norm.c k, trivial⟩, trivial, trivial⟩) k
end ratio_made

namespace ratio_Norm
def ptL : List (Pt (TD [tQ])) := []
def fns : Nat → List (FuncId × FS) := fun k => [(13, nat_Bits.fs k), (14, ratio_made.fs k)]
def fs (k : Nat) : FS := ⟨[tQ], [tQ], fun (x : RX) => ratio_Norm.f k x⟩
theorem ok : FnO Tryd.prog 5 14 Tryd.f5 1 := okF _ (by kernel_rfl) (by kernel_rfl)
theorem c (k : Nat) : Contract Tryd.prog 5 (fs k) :=
  fnS [tQ] [tQ] ptL fns fgs0 fws0 (fun k (x : RX) => ratio_Norm.f k x) ok trivial (fun k x => by kernel_rfl) (fun k => ⟨⟨nat_Bits.c k, ratio_made.c k, trivial⟩, trivial, trivial⟩) k
end ratio_Norm

namespace nat_Text
def s5 : PSig := ⟨0, [], []⟩
def s0 : PSig := ⟨0, [(5, (.int .u8), false)], [(1, .val (.int .i64)), (6, .own 0), (7, .val tL)]⟩
def s4 : PSig := ⟨0, [(5, (.int .u8), false), (5, (.int .u8), false)], [(6, .own 0), (9, .own 1), (43, .val (.int .i64)), (44, .val (.int .i64))]⟩
def ptL : List (Pt (TD [.str, (.int .i64)])) := [⟨5, s5, fun k (x : Unit) => nat_Text.p5 k x⟩, ⟨0, s0, fun k (x : LX × Int × LX) => nat_Text.p0 k x.1 x.2.1 x.2.2⟩, ⟨4, s4, fun k (x : LX × LX × Int × Int) => nat_Text.p4 k x.1 x.2.1 x.2.2.1 x.2.2.2⟩]
def fns : Nat → List (FuncId × FS) := fun k => [(40, nat_own.fs k), (56, nat_short.fs k), (33, nat_trim.fs k)]
def fs (k : Nat) : FS := ⟨[tL, (.int .i64)], [.str, (.int .i64)], fun (x : LX × Int) => nat_Text.f k x.1 x.2⟩
theorem ok : FnO Tryd.prog 47 61 Tryd.f47 2 := okF _ (by kernel_rfl) (by kernel_rfl)
theorem c (k : Nat) : Contract Tryd.prog 47 (fs k) :=
  fnS [tL, (.int .i64)] [.str, (.int .i64)] ptL fns fgs0 fws0 (fun k (x : LX × Int) => nat_Text.f k x.1 x.2) ok ⟨⟨rfl, fun _ => rfl, fun k x => by kernel_rfl⟩, ⟨rfl, fun _ => rfl, fun k x => by kernel_rfl⟩, ⟨rfl, fun _ => rfl, fun k x => by kernel_rfl⟩, trivial⟩ (fun k x => by kernel_rfl) (fun k => ⟨⟨nat_own.c k, nat_short.c k, nat_trim.c k, trivial⟩, trivial, trivial⟩) k
end nat_Text

namespace whole_Text
def ptL : List (Pt (TD [.str])) := []
def fns : Nat → List (FuncId × FS) := fun k => [(47, nat_Text.fs k), (27, whole_Sign.fs k)]
def fs (k : Nat) : FS := ⟨[tZ], [.str], fun (x : ZX) => whole_Text.f k x⟩
theorem ok : FnO Tryd.prog 24 17 Tryd.f24 1 := okF _ (by kernel_rfl) (by kernel_rfl)
theorem c (k : Nat) : Contract Tryd.prog 24 (fs k) :=
  fnS [tZ] [.str] ptL fns fgs0 fws0 (fun k (x : ZX) => whole_Text.f k x) ok trivial (fun k x => by kernel_rfl) (fun k => ⟨⟨nat_Text.c k, whole_Sign.c k, trivial⟩, trivial, trivial⟩) k
end whole_Text

namespace ratio_decimal
def ptL : List (Pt (TD [.str])) := []
def fns : Nat → List (FuncId × FS) := fun k => [(47, nat_Text.fs k)]
def fs (k : Nat) : FS := ⟨[tL], [.str], fun (x : LX) => ratio_decimal.f k x⟩
theorem ok : FnO Tryd.prog 26 11 Tryd.f26 1 := okF _ (by kernel_rfl) (by kernel_rfl)
theorem c (k : Nat) : Contract Tryd.prog 26 (fs k) :=
  fnS [tL] [.str] ptL fns fgs0 fws0 (fun k (x : LX) => ratio_decimal.f k x) ok trivial (fun k x => by kernel_rfl) (fun k => ⟨⟨nat_Text.c k, trivial⟩, trivial, trivial⟩) k
end ratio_decimal

namespace ratio_Text
def s11 : PSig := ⟨0, [], [(3, .val .str)]⟩
def ptL : List (Pt (TD [.str])) := [⟨11, s11, fun k (x : ByteArray) => ratio_Text.p11 k x⟩]
def fns : Nat → List (FuncId × FS) := fun k => [(5, ratio_Norm.fs k), (24, whole_Text.fs k), (25, nat_Cmp.fs k), (26, ratio_decimal.fs k)]
def fs (k : Nat) : FS := ⟨[tQ], [.str], fun (x : RX) => ratio_Text.f k x⟩
theorem ok : FnO Tryd.prog 8 21 Tryd.f8 1 := okF _ (by kernel_rfl) (by kernel_rfl)
theorem c (k : Nat) : Contract Tryd.prog 8 (fs k) :=
  fnS [tQ] [.str] ptL fns fgs0 fws0 (fun k (x : RX) => ratio_Text.f k x) ok ⟨⟨rfl, fun _ => rfl, fun k x => by kernel_rfl⟩, trivial⟩ (fun k x => by kernel_rfl) (fun k => ⟨⟨ratio_Norm.c k, whole_Text.c k, nat_Cmp.c k, ratio_decimal.c k, trivial⟩, trivial, trivial⟩) k
end ratio_Text

namespace stringslite_HasPrefix
def ptL : List (Pt (TD [.bool])) := []
def fs (k : Nat) : FS := ⟨[.str, .str], [.bool], fun (x : ByteArray × ByteArray) => stringslite_HasPrefix.f k x.1 x.2⟩
theorem ok : FnO Tryd.prog 59 18 Tryd.f59 2 := okF _ (by kernel_rfl) (by kernel_rfl)
theorem c (k : Nat) : Contract Tryd.prog 59 (fs k) :=
  fnS [.str, .str] [.bool] ptL fns0 fgs0 fws0 (fun k (x : ByteArray × ByteArray) => stringslite_HasPrefix.f k x.1 x.2) ok trivial (fun k x => by kernel_rfl) (fun _ => ⟨trivial, trivial, trivial⟩) k
end stringslite_HasPrefix

namespace stringslite_CutPrefix
def ptL : List (Pt (TD [.str, .bool])) := []
def fns : Nat → List (FuncId × FS) := fun k => [(59, stringslite_HasPrefix.fs k)]
def fs (k : Nat) : FS := ⟨[.str, .str], [.str, .bool], fun (x : ByteArray × ByteArray) => stringslite_CutPrefix.f k x.1 x.2⟩
theorem ok : FnO Tryd.prog 38 15 Tryd.f38 2 := okF _ (by kernel_rfl) (by kernel_rfl)
theorem c (k : Nat) : Contract Tryd.prog 38 (fs k) :=
  fnS [.str, .str] [.str, .bool] ptL fns fgs0 fws0 (fun k (x : ByteArray × ByteArray) => stringslite_CutPrefix.f k x.1 x.2) ok trivial (fun k x => by kernel_rfl) (fun k => ⟨⟨stringslite_HasPrefix.c k, trivial⟩, trivial, trivial⟩) k
end stringslite_CutPrefix

namespace strings_CutPrefix
def ptL : List (Pt (TD [.str, .bool])) := []
def fns : Nat → List (FuncId × FS) := fun k => [(38, stringslite_CutPrefix.fs k)]
def fs (k : Nat) : FS := ⟨[.str, .str], [.str, .bool], fun (x : ByteArray × ByteArray) => strings_CutPrefix.f k x.1 x.2⟩
theorem ok : FnO Tryd.prog 17 11 Tryd.f17 2 := okF _ (by kernel_rfl) (by kernel_rfl)
theorem c (k : Nat) : Contract Tryd.prog 17 (fs k) :=
  fnS [.str, .str] [.str, .bool] ptL fns fgs0 fws0 (fun k (x : ByteArray × ByteArray) => strings_CutPrefix.f k x.1 x.2) ok trivial (fun k x => by kernel_rfl) (fun k => ⟨⟨stringslite_CutPrefix.c k, trivial⟩, trivial, trivial⟩) k
end strings_CutPrefix

namespace bytealg_IndexByteString
theorem c (k : Nat) : Contract Tryd.prog 82 ⟨[.str, (.int .u8)], [(.int .i64)], fun (x : ByteArray × Int) => bytealg_IndexByteString.f k x.1 x.2⟩ :=
  indexByteString_contract (fn := Tryd.f82) (by kernel_rfl) (by kernel_rfl) (by kernel_rfl) (by kernel_rfl) (by kernel_rfl) (fun _ _ => rfl)
end bytealg_IndexByteString

namespace stringslite_IndexByte
def ptL : List (Pt (TD [(.int .i64)])) := []
def fns : Nat → List (FuncId × FS) := fun k => [(82, ⟨[.str, (.int .u8)], [(.int .i64)], fun (x : ByteArray × Int) => bytealg_IndexByteString.f k x.1 x.2⟩)]
def fs (k : Nat) : FS := ⟨[.str, (.int .u8)], [(.int .i64)], fun (x : ByteArray × Int) => stringslite_IndexByte.f k x.1 x.2⟩
theorem ok : FnO Tryd.prog 73 8 Tryd.f73 2 := okF _ (by kernel_rfl) (by kernel_rfl)
theorem c (k : Nat) : Contract Tryd.prog 73 (fs k) :=
  fnS [.str, (.int .u8)] [(.int .i64)] ptL fns fgs0 fws0 (fun k (x : ByteArray × Int) => stringslite_IndexByte.f k x.1 x.2) ok trivial (fun k x => by kernel_rfl) (fun k => ⟨⟨bytealg_IndexByteString.c k, trivial⟩, trivial, trivial⟩) k
end stringslite_IndexByte

namespace bytealg_Cutover
def ptL : List (Pt (TD [(.int .i64)])) := []
def fs (k : Nat) : FS := ⟨[(.int .i64)], [(.int .i64)], fun (x : Int) => bytealg_Cutover.f k x⟩
theorem ok : FnO Tryd.prog 75 6 Tryd.f75 1 := okF _ (by kernel_rfl) (by kernel_rfl)
theorem c (k : Nat) : Contract Tryd.prog 75 (fs k) :=
  fnS [(.int .i64)] [(.int .i64)] ptL fns0 fgs0 fws0 (fun k (x : Int) => bytealg_Cutover.f k x) ok trivial (fun k x => by kernel_rfl) (fun _ => ⟨trivial, trivial, trivial⟩) k
end bytealg_Cutover

namespace bytealg_hashStr_string_
def s0 : PSig := ⟨0, [], [(0, .val .str), (4, .val (.int .u32)), (5, .val (.int .i64))]⟩
def s4 : PSig := ⟨0, [], [(4, .val (.int .u32)), (6, .val (.int .u32)), (7, .val (.int .u32)), (8, .val (.int .i64))]⟩
def s25 : PSig := ⟨0, [], [(4, .val (.int .u32)), (6, .val (.int .u32)), (7, .val (.int .u32)), (8, .val (.int .i64))]⟩
def ptL : List (Pt (TD [(.int .u32), (.int .u32)])) := [⟨0, s0, fun k (x : ByteArray × Int × Int) => bytealg_hashStr_string_.p0 k x.1 x.2.1 x.2.2⟩, ⟨4, s4, fun k (x : Int × Int × Int × Int) => bytealg_hashStr_string_.p4 k x.1 x.2.1 x.2.2.1 x.2.2.2⟩, ⟨25, s25, fun k (x : Int × Int × Int × Int) => bytealg_hashStr_string_.p25 k x.1 x.2.1 x.2.2.1 x.2.2.2⟩]
def fs (k : Nat) : FS := ⟨[.str], [(.int .u32), (.int .u32)], fun (x : ByteArray) => bytealg_hashStr_string_.f k x⟩
theorem ok : FnO Tryd.prog 83 39 Tryd.f83 1 := okF _ (by kernel_rfl) (by kernel_rfl)
theorem c (k : Nat) : Contract Tryd.prog 83 (fs k) :=
  fnS [.str] [(.int .u32), (.int .u32)] ptL fns0 fgs0 fws0 (fun k (x : ByteArray) => bytealg_hashStr_string_.f k x) ok ⟨⟨rfl, fun _ => rfl, fun k x => by kernel_rfl⟩, ⟨rfl, fun _ => rfl, fun k x => by kernel_rfl⟩, ⟨rfl, fun _ => rfl, fun k x => by kernel_rfl⟩, trivial⟩ (fun k x => by kernel_rfl) (fun _ => ⟨trivial, trivial, trivial⟩) k
end bytealg_hashStr_string_

namespace bytealg_IndexRabinKarp_string_
def s0 : PSig := ⟨0, [], [(0, .val .str), (1, .val .str), (5, .val (.int .u32)), (6, .val (.int .u32)), (7, .val (.int .i64)), (8, .val (.int .u32)), (9, .val (.int .i64))]⟩
def s21 : PSig := ⟨0, [], [(0, .val .str), (1, .val .str), (5, .val (.int .u32)), (6, .val (.int .u32)), (7, .val (.int .i64)), (8, .val (.int .u32))]⟩
def s4 : PSig := ⟨0, [], [(0, .val .str), (1, .val .str), (5, .val (.int .u32)), (6, .val (.int .u32)), (7, .val (.int .i64)), (8, .val (.int .u32)), (10, .val (.int .i64))]⟩
def ptL : List (Pt (TD [(.int .i64)])) := [⟨0, s0, fun k (x : ByteArray × ByteArray × Int × Int × Int × Int × Int) => bytealg_IndexRabinKarp_string_.p0 k x.1 x.2.1 x.2.2.1 x.2.2.2.1 x.2.2.2.2.1 x.2.2.2.2.2.1 x.2.2.2.2.2.2⟩, ⟨21, s21, fun k (x : ByteArray × ByteArray × Int × Int × Int × Int) => bytealg_IndexRabinKarp_string_.p21 k x.1 x.2.1 x.2.2.1 x.2.2.2.1 x.2.2.2.2.1 x.2.2.2.2.2⟩, ⟨4, s4, fun k (x : ByteArray × ByteArray × Int × Int × Int × Int × Int) => bytealg_IndexRabinKarp_string_.p4 k x.1 x.2.1 x.2.2.1 x.2.2.2.1 x.2.2.2.2.1 x.2.2.2.2.2.1 x.2.2.2.2.2.2⟩]
def fns : Nat → List (FuncId × FS) := fun k => [(83, bytealg_hashStr_string_.fs k)]
def fs (k : Nat) : FS := ⟨[.str, .str], [(.int .i64)], fun (x : ByteArray × ByteArray) => bytealg_IndexRabinKarp_string_.f k x.1 x.2⟩
theorem ok : FnO Tryd.prog 76 81 Tryd.f76 2 := okF _ (by kernel_rfl) (by kernel_rfl)
theorem c (k : Nat) : Contract Tryd.prog 76 (fs k) :=
  fnS [.str, .str] [(.int .i64)] ptL fns fgs0 fws0 (fun k (x : ByteArray × ByteArray) => bytealg_IndexRabinKarp_string_.f k x.1 x.2) ok ⟨⟨rfl, fun _ => rfl, fun k x => by kernel_rfl⟩, ⟨rfl, fun _ => rfl, fun k x => by kernel_rfl⟩, ⟨rfl, fun _ => rfl, fun k x => by kernel_rfl⟩, trivial⟩ (fun k x => by kernel_rfl) (fun k => ⟨⟨bytealg_hashStr_string_.c k, trivial⟩, trivial, trivial⟩) k
end bytealg_IndexRabinKarp_string_

namespace stringslite_Index
def s7 : PSig := ⟨0, [], []⟩
def ptL : List (Pt (TD [(.int .i64)])) := [⟨7, s7, fun k (x : Unit) => stringslite_Index.p7 k x⟩]
def fns : Nat → List (FuncId × FS) := fun k => [(73, stringslite_IndexByte.fs k)]
def fs (k : Nat) : FS := ⟨[.str, .str], [(.int .i64)], fun (x : ByteArray × ByteArray) => stringslite_Index.f k x.1 x.2⟩
theorem ok : FnO Tryd.prog 60 143 Tryd.f60 2 := okF _ (by kernel_rfl) (by kernel_rfl)
theorem c (k : Nat) : Contract Tryd.prog 60 (fs k) :=
  fnS [.str, .str] [(.int .i64)] ptL fns fgs0 fws0 (fun k (x : ByteArray × ByteArray) => stringslite_Index.f k x.1 x.2) ok ⟨⟨rfl, fun _ => rfl, fun k x => by kernel_rfl⟩, trivial⟩ (fun k x => by kernel_rfl) (fun k => ⟨⟨stringslite_IndexByte.c k, trivial⟩, trivial, trivial⟩) k
end stringslite_Index

namespace stringslite_Cut
def ptL : List (Pt (TD [.str, .str, .bool])) := []
def fns : Nat → List (FuncId × FS) := fun k => [(60, stringslite_Index.fs k)]
def fs (k : Nat) : FS := ⟨[.str, .str], [.str, .str, .bool], fun (x : ByteArray × ByteArray) => stringslite_Cut.f k x.1 x.2⟩
theorem ok : FnO Tryd.prog 39 23 Tryd.f39 2 := okF _ (by kernel_rfl) (by kernel_rfl)
theorem c (k : Nat) : Contract Tryd.prog 39 (fs k) :=
  fnS [.str, .str] [.str, .str, .bool] ptL fns fgs0 fws0 (fun k (x : ByteArray × ByteArray) => stringslite_Cut.f k x.1 x.2) ok trivial (fun k x => by kernel_rfl) (fun k => ⟨⟨stringslite_Index.c k, trivial⟩, trivial, trivial⟩) k
end stringslite_Cut

namespace strings_Cut
def ptL : List (Pt (TD [.str, .str, .bool])) := []
def fns : Nat → List (FuncId × FS) := fun k => [(39, stringslite_Cut.fs k)]
def fs (k : Nat) : FS := ⟨[.str, .str], [.str, .str, .bool], fun (x : ByteArray × ByteArray) => strings_Cut.f k x.1 x.2⟩
theorem ok : FnO Tryd.prog 18 13 Tryd.f18 2 := okF _ (by kernel_rfl) (by kernel_rfl)
theorem c (k : Nat) : Contract Tryd.prog 18 (fs k) :=
  fnS [.str, .str] [.str, .str, .bool] ptL fns fgs0 fws0 (fun k (x : ByteArray × ByteArray) => strings_Cut.f k x.1 x.2) ok trivial (fun k x => by kernel_rfl) (fun k => ⟨⟨stringslite_Cut.c k, trivial⟩, trivial, trivial⟩) k
end strings_Cut

namespace nat_Parse
def s5 : PSig := ⟨0, [], []⟩
def s9 : PSig := ⟨0, [], []⟩
def s11 : PSig := ⟨0, [], [(0, .val .str), (1, .val (.int .i64))]⟩
def s0 : PSig := ⟨0, [(40, (.int .u32), false)], [(0, .val .str), (1, .val (.int .i64)), (6, .own 0), (31, .val (.int .i64)), (32, .val (.int .i64))]⟩
def s23 : PSig := ⟨0, [], []⟩
def s4 : PSig := ⟨0, [(40, (.int .u32), false)], [(0, .val .str), (1, .val (.int .i64)), (6, .own 0), (9, .val (.int .u64)), (31, .val (.int .i64)), (32, .val (.int .i64)), (59, .val (.int .i64)), (60, .val (.int .i64))]⟩
def s45 : PSig := ⟨0, [(40, (.int .u32), false)], [(0, .val .str), (1, .val (.int .i64)), (6, .own 0), (31, .val (.int .i64)), (32, .val (.int .i64))]⟩
def ptL : List (Pt (TD [tL, (.int .i64)])) := [⟨5, s5, fun k (x : Unit) => nat_Parse.p5 k x⟩, ⟨9, s9, fun k (x : Unit) => nat_Parse.p9 k x⟩, ⟨11, s11, fun k (x : ByteArray × Int) => nat_Parse.p11 k x.1 x.2⟩, ⟨0, s0, fun k (x : LX × ByteArray × Int × Int × Int) => nat_Parse.p0 k x.1 x.2.1 x.2.2.1 x.2.2.2.1 x.2.2.2.2⟩, ⟨23, s23, fun k (x : Unit) => nat_Parse.p23 k x⟩, ⟨4, s4, fun k (x : LX × ByteArray × Int × Int × Int × Int × Int × Int) => nat_Parse.p4 k x.1 x.2.1 x.2.2.1 x.2.2.2.1 x.2.2.2.2.1 x.2.2.2.2.2.1 x.2.2.2.2.2.2.1 x.2.2.2.2.2.2.2⟩, ⟨45, s45, fun k (x : LX × ByteArray × Int × Int × Int) => nat_Parse.p45 k x.1 x.2.1 x.2.2.1 x.2.2.2.1 x.2.2.2.2⟩]
def fns : Nat → List (FuncId × FS) := fun k => [(40, nat_own.fs k)]
def fs (k : Nat) : FS := ⟨[.str, (.int .i64)], [tL, (.int .i64)], fun (x : ByteArray × Int) => nat_Parse.f k x.1 x.2⟩
theorem ok : FnO Tryd.prog 19 91 Tryd.f19 2 := okF _ (by kernel_rfl) (by kernel_rfl)
theorem c (k : Nat) : Contract Tryd.prog 19 (fs k) :=
  fnS [.str, (.int .i64)] [tL, (.int .i64)] ptL fns fgs0 fws0 (fun k (x : ByteArray × Int) => nat_Parse.f k x.1 x.2) ok ⟨⟨rfl, fun _ => rfl, fun k x => by kernel_rfl⟩, ⟨rfl, fun _ => rfl, fun k x => by kernel_rfl⟩, ⟨rfl, fun _ => rfl, fun k x => by kernel_rfl⟩, ⟨rfl, fun _ => rfl, fun k x => by kernel_rfl⟩, ⟨rfl, fun _ => rfl, fun k x => by kernel_rfl⟩, ⟨rfl, fun _ => rfl, fun k x => by kernel_rfl⟩, ⟨rfl, fun _ => rfl, fun k x => by kernel_rfl⟩, trivial⟩ (fun k x => by kernel_rfl) (fun k => ⟨⟨nat_own.c k, trivial⟩, trivial, trivial⟩) k
end nat_Parse

namespace strings_trimLeftByte
def s0 : PSig := ⟨0, [], [(0, .val .str), (1, .val (.int .u8))]⟩
def s7 : PSig := ⟨0, [], [(0, .val .str)]⟩
def ptL : List (Pt (TD [.str])) := [⟨0, s0, fun k (x : ByteArray × Int) => strings_trimLeftByte.p0 k x.1 x.2⟩, ⟨7, s7, fun k (x : ByteArray) => strings_trimLeftByte.p7 k x⟩]
def fs (k : Nat) : FS := ⟨[.str, (.int .u8)], [.str], fun (x : ByteArray × Int) => strings_trimLeftByte.f k x.1 x.2⟩
theorem ok : FnO Tryd.prog 41 17 Tryd.f41 2 := okF _ (by kernel_rfl) (by kernel_rfl)
theorem c (k : Nat) : Contract Tryd.prog 41 (fs k) :=
  fnS [.str, (.int .u8)] [.str] ptL fns0 fgs0 fws0 (fun k (x : ByteArray × Int) => strings_trimLeftByte.f k x.1 x.2) ok ⟨⟨rfl, fun _ => rfl, fun k x => by kernel_rfl⟩, ⟨rfl, fun _ => rfl, fun k x => by kernel_rfl⟩, trivial⟩ (fun k x => by kernel_rfl) (fun _ => ⟨trivial, trivial, trivial⟩) k
end strings_trimLeftByte

namespace utf8_decodeRuneInStringSlow
def ptL : List (Pt (TD [(.int .i32), (.int .i64)])) := []
def fs (k : Nat) : FS := ⟨[.str], [(.int .i32), (.int .i64)], fun (x : ByteArray) => utf8_decodeRuneInStringSlow.f k x⟩
theorem ok : FnO Tryd.prog 77 117 Tryd.f77 1 := okF _ (by kernel_rfl) (by kernel_rfl)
theorem c (k : Nat) : Contract Tryd.prog 77 (fs k) :=
  fnS [.str] [(.int .i32), (.int .i64)] ptL fns0 fgs0 fws0 (fun k (x : ByteArray) => utf8_decodeRuneInStringSlow.f k x) ok trivial (fun k x => by kernel_rfl) (fun _ => ⟨trivial, trivial, trivial⟩) k
end utf8_decodeRuneInStringSlow

namespace utf8_DecodeRuneInString
def s7 : PSig := ⟨0, [], [(0, .val .str)]⟩
def ptL : List (Pt (TD [(.int .i32), (.int .i64)])) := [⟨7, s7, fun k (x : ByteArray) => utf8_DecodeRuneInString.p7 k x⟩]
def fns : Nat → List (FuncId × FS) := fun k => [(77, utf8_decodeRuneInStringSlow.fs k)]
def fs (k : Nat) : FS := ⟨[.str], [(.int .i32), (.int .i64)], fun (x : ByteArray) => utf8_DecodeRuneInString.f k x⟩
theorem ok : FnO Tryd.prog 62 19 Tryd.f62 1 := okF _ (by kernel_rfl) (by kernel_rfl)
theorem c (k : Nat) : Contract Tryd.prog 62 (fs k) :=
  fnS [.str] [(.int .i32), (.int .i64)] ptL fns fgs0 fws0 (fun k (x : ByteArray) => utf8_DecodeRuneInString.f k x) ok ⟨⟨rfl, fun _ => rfl, fun k x => by kernel_rfl⟩, trivial⟩ (fun k x => by kernel_rfl) (fun k => ⟨⟨utf8_decodeRuneInStringSlow.c k, trivial⟩, trivial, trivial⟩) k
end utf8_DecodeRuneInString

namespace strings_IndexByte
def ptL : List (Pt (TD [(.int .i64)])) := []
def fns : Nat → List (FuncId × FS) := fun k => [(73, stringslite_IndexByte.fs k)]
def fs (k : Nat) : FS := ⟨[.str, (.int .u8)], [(.int .i64)], fun (x : ByteArray × Int) => strings_IndexByte.f k x.1 x.2⟩
theorem ok : FnO Tryd.prog 84 8 Tryd.f84 2 := okF _ (by kernel_rfl) (by kernel_rfl)
theorem c (k : Nat) : Contract Tryd.prog 84 (fs k) :=
  fnS [.str, (.int .u8)] [(.int .i64)] ptL fns fgs0 fws0 (fun k (x : ByteArray × Int) => strings_IndexByte.f k x.1 x.2) ok trivial (fun k x => by kernel_rfl) (fun k => ⟨⟨stringslite_IndexByte.c k, trivial⟩, trivial, trivial⟩) k
end strings_IndexByte

namespace utf8_ValidRune
def s7 : PSig := ⟨0, [], [(0, .val (.int .i32))]⟩
def s11 : PSig := ⟨0, [], []⟩
def ptL : List (Pt (TD [.bool])) := [⟨7, s7, fun k (x : Int) => utf8_ValidRune.p7 k x⟩, ⟨11, s11, fun k (x : Unit) => utf8_ValidRune.p11 k x⟩]
def fs (k : Nat) : FS := ⟨[(.int .i32)], [.bool], fun (x : Int) => utf8_ValidRune.f k x⟩
theorem ok : FnO Tryd.prog 85 17 Tryd.f85 1 := okF _ (by kernel_rfl) (by kernel_rfl)
theorem c (k : Nat) : Contract Tryd.prog 85 (fs k) :=
  fnS [(.int .i32)] [.bool] ptL fns0 fgs0 fws0 (fun k (x : Int) => utf8_ValidRune.f k x) ok ⟨⟨rfl, fun _ => rfl, fun k x => by kernel_rfl⟩, ⟨rfl, fun _ => rfl, fun k x => by kernel_rfl⟩, trivial⟩ (fun k x => by kernel_rfl) (fun _ => ⟨trivial, trivial, trivial⟩) k
end utf8_ValidRune

namespace strings_IndexRune
def s73 : PSig := ⟨0, [], [(0, .val .str), (1, .val (.int .i32))]⟩
def s18 : PSig := ⟨0, [(9, itT, true)], [(175, .ptr 0 [])]⟩
def s2 : PSig := ⟨0, [], [(0, .val .str), (7, .val .str), (8, .val (.int .i64)), (9, .val (.int .i64))]⟩
def s23 : PSig := ⟨0, [], [(0, .val .str), (7, .val .str), (8, .val (.int .i64)), (9, .val (.int .i64))]⟩
def s6 : PSig := ⟨0, [], [(0, .val .str), (7, .val .str), (8, .val (.int .i64)), (9, .val (.int .i64)), (12, .val (.int .i64))]⟩
def ptL : List (Pt (TD [(.int .i64)])) := [⟨73, s73, fun k (x : ByteArray × Int) => strings_IndexRune.p73 k x.1 x.2⟩, ⟨18, s18, fun k (x : (ByteArray × Nat)) => strings_IndexRune.p18 k x⟩, ⟨2, s2, fun k (x : ByteArray × ByteArray × Int × Int) => strings_IndexRune.p2 k x.1 x.2.1 x.2.2.1 x.2.2.2⟩, ⟨23, s23, fun k (x : ByteArray × ByteArray × Int × Int) => strings_IndexRune.p23 k x.1 x.2.1 x.2.2.1 x.2.2.2⟩, ⟨6, s6, fun k (x : ByteArray × ByteArray × Int × Int × Int) => strings_IndexRune.p6 k x.1 x.2.1 x.2.2.1 x.2.2.2.1 x.2.2.2.2⟩]
def fns : Nat → List (FuncId × FS) := fun k => [(84, strings_IndexByte.fs k), (85, utf8_ValidRune.fs k)]
def fs (k : Nat) : FS := ⟨[.str, (.int .i32)], [(.int .i64)], fun (x : ByteArray × Int) => strings_IndexRune.f k x.1 x.2⟩
theorem ok : FnO Tryd.prog 78 187 Tryd.f78 2 := okF _ (by kernel_rfl) (by kernel_rfl)
theorem c (k : Nat) : Contract Tryd.prog 78 (fs k) :=
  fnS [.str, (.int .i32)] [(.int .i64)] ptL fns fgs0 fws0 (fun k (x : ByteArray × Int) => strings_IndexRune.f k x.1 x.2) ok ⟨⟨rfl, fun _ => rfl, fun k x => by kernel_rfl⟩, ⟨rfl, fun _ => rfl, fun k x => by kernel_rfl⟩, ⟨rfl, fun _ => rfl, fun k x => by kernel_rfl⟩, ⟨rfl, fun _ => rfl, fun k x => by kernel_rfl⟩, ⟨rfl, fun _ => rfl, fun k x => by kernel_rfl⟩, trivial⟩ (fun k x => by kernel_rfl) (fun k => ⟨⟨strings_IndexByte.c k, utf8_ValidRune.c k, trivial⟩, trivial, trivial⟩) k
end strings_IndexRune

namespace strings_ContainsRune
def ptL : List (Pt (TD [.bool])) := []
def fns : Nat → List (FuncId × FS) := fun k => [(78, strings_IndexRune.fs k)]
def fs (k : Nat) : FS := ⟨[.str, (.int .i32)], [.bool], fun (x : ByteArray × Int) => strings_ContainsRune.f k x.1 x.2⟩
theorem ok : FnO Tryd.prog 63 9 Tryd.f63 2 := okF _ (by kernel_rfl) (by kernel_rfl)
theorem c (k : Nat) : Contract Tryd.prog 63 (fs k) :=
  fnS [.str, (.int .i32)] [.bool] ptL fns fgs0 fws0 (fun k (x : ByteArray × Int) => strings_ContainsRune.f k x.1 x.2) ok trivial (fun k x => by kernel_rfl) (fun k => ⟨⟨strings_IndexRune.c k, trivial⟩, trivial, trivial⟩) k
end strings_ContainsRune

namespace strings_trimLeftUnicode
def s0 : PSig := ⟨0, [], [(0, .val .str), (1, .val .str)]⟩
def s11 : PSig := ⟨0, [], [(0, .val .str)]⟩
def ptL : List (Pt (TD [.str])) := [⟨0, s0, fun k (x : ByteArray × ByteArray) => strings_trimLeftUnicode.p0 k x.1 x.2⟩, ⟨11, s11, fun k (x : ByteArray) => strings_trimLeftUnicode.p11 k x⟩]
def fns : Nat → List (FuncId × FS) := fun k => [(62, utf8_DecodeRuneInString.fs k), (63, strings_ContainsRune.fs k)]
def fs (k : Nat) : FS := ⟨[.str, .str], [.str], fun (x : ByteArray × ByteArray) => strings_trimLeftUnicode.f k x.1 x.2⟩
theorem ok : FnO Tryd.prog 44 23 Tryd.f44 2 := okF _ (by kernel_rfl) (by kernel_rfl)
theorem c (k : Nat) : Contract Tryd.prog 44 (fs k) :=
  fnS [.str, .str] [.str] ptL fns fgs0 fws0 (fun k (x : ByteArray × ByteArray) => strings_trimLeftUnicode.f k x.1 x.2) ok ⟨⟨rfl, fun _ => rfl, fun k x => by kernel_rfl⟩, ⟨rfl, fun _ => rfl, fun k x => by kernel_rfl⟩, trivial⟩ (fun k x => by kernel_rfl) (fun k => ⟨⟨utf8_DecodeRuneInString.c k, strings_ContainsRune.c k, trivial⟩, trivial, trivial⟩) k
end strings_trimLeftUnicode

namespace strings_TrimLeft
def s5 : PSig := ⟨0, [], [(0, .val .str)]⟩
def s11 : PSig := ⟨0, [], [(0, .val .str), (1, .val .str)]⟩
def ptL : List (Pt (TD [.str])) := [⟨5, s5, fun k (x : ByteArray) => strings_TrimLeft.p5 k x⟩, ⟨11, s11, fun k (x : ByteArray × ByteArray) => strings_TrimLeft.p11 k x.1 x.2⟩]
def fns : Nat → List (FuncId × FS) := fun k => [(41, strings_trimLeftByte.fs k)]
def fs (k : Nat) : FS := ⟨[.str, .str], [.str], fun (x : ByteArray × ByteArray) => strings_TrimLeft.f k x.1 x.2⟩
theorem ok : FnO Tryd.prog 20 37 Tryd.f20 2 := okF _ (by kernel_rfl) (by kernel_rfl)
theorem c (k : Nat) : Contract Tryd.prog 20 (fs k) :=
  fnS [.str, .str] [.str] ptL fns fgs0 fws0 (fun k (x : ByteArray × ByteArray) => strings_TrimLeft.f k x.1 x.2) ok ⟨⟨rfl, fun _ => rfl, fun k x => by kernel_rfl⟩, ⟨rfl, fun _ => rfl, fun k x => by kernel_rfl⟩, trivial⟩ (fun k x => by kernel_rfl) (fun k => ⟨⟨strings_trimLeftByte.c k, trivial⟩, trivial, trivial⟩) k
end strings_TrimLeft

namespace nat_Mul
def s0 : PSig := ⟨0, [(40, (.int .u32), false)], [(0, .val tL), (1, .val tL), (5, .own 0), (21, .val (.int .i64)), (22, .val (.int .i64))]⟩
def s4 : PSig := ⟨0, [(40, (.int .u32), false)], [(0, .val tL), (1, .val tL), (5, .own 0), (6, .val (.int .i64)), (7, .val (.int .u64)), (21, .val (.int .i64)), (22, .val (.int .i64)), (26, .val (.int .i64)), (27, .val (.int .i64))]⟩
def ptL : List (Pt (TD [tL])) := [⟨0, s0, fun k (x : LX × LX × LX × Int × Int) => nat_Mul.p0 k x.1 x.2.1 x.2.2.1 x.2.2.2.1 x.2.2.2.2⟩, ⟨4, s4, fun k (x : LX × LX × LX × Int × Int × Int × Int × Int × Int) => nat_Mul.p4 k x.1 x.2.1 x.2.2.1 x.2.2.2.1 x.2.2.2.2.1 x.2.2.2.2.2.1 x.2.2.2.2.2.2.1 x.2.2.2.2.2.2.2.1 x.2.2.2.2.2.2.2.2⟩]
def fns : Nat → List (FuncId × FS) := fun k => [(33, nat_trim.fs k), (40, nat_own.fs k)]
def fs (k : Nat) : FS := ⟨[tL, tL], [tL], fun (x : LX × LX) => nat_Mul.f k x.1 x.2⟩
theorem ok : FnO Tryd.prog 23 72 Tryd.f23 2 := okF _ (by kernel_rfl) (by kernel_rfl)
theorem c (k : Nat) : Contract Tryd.prog 23 (fs k) :=
  fnS [tL, tL] [tL] ptL fns fgs0 fws0 (fun k (x : LX × LX) => nat_Mul.f k x.1 x.2) ok ⟨⟨rfl, fun _ => rfl, fun k x => by kernel_rfl⟩, ⟨rfl, fun _ => rfl, fun k x => by kernel_rfl⟩, trivial⟩ (fun k x => by kernel_rfl) (fun k => ⟨⟨nat_trim.c k, nat_own.c k, trivial⟩, trivial, trivial⟩) k
end nat_Mul

namespace nat_Pow
def s5 : PSig := ⟨0, [], []⟩
def s0 : PSig := ⟨0, [], [(1, .val (.int .i64)), (6, .val tL), (7, .val tL)]⟩
def s19 : PSig := ⟨0, [], [(1, .val (.int .i64)), (6, .val tL), (7, .val tL)]⟩
def s13 : PSig := ⟨0, [], [(1, .val (.int .i64)), (6, .val tL), (7, .val tL)]⟩
def ptL : List (Pt (TD [tL, (.int .i64)])) := [⟨5, s5, fun k (x : Unit) => nat_Pow.p5 k x⟩, ⟨0, s0, fun k (x : Int × LX × LX) => nat_Pow.p0 k x.1 x.2.1 x.2.2⟩, ⟨19, s19, fun k (x : Int × LX × LX) => nat_Pow.p19 k x.1 x.2.1 x.2.2⟩, ⟨13, s13, fun k (x : Int × LX × LX) => nat_Pow.p13 k x.1 x.2.1 x.2.2⟩]
def fns : Nat → List (FuncId × FS) := fun k => [(40, nat_own.fs k), (23, nat_Mul.fs k)]
def fs (k : Nat) : FS := ⟨[tL, (.int .i64)], [tL, (.int .i64)], fun (x : LX × Int) => nat_Pow.f k x.1 x.2⟩
theorem ok : FnO Tryd.prog 45 33 Tryd.f45 2 := okF _ (by kernel_rfl) (by kernel_rfl)
theorem c (k : Nat) : Contract Tryd.prog 45 (fs k) :=
  fnS [tL, (.int .i64)] [tL, (.int .i64)] ptL fns fgs0 fws0 (fun k (x : LX × Int) => nat_Pow.f k x.1 x.2) ok ⟨⟨rfl, fun _ => rfl, fun k x => by kernel_rfl⟩, ⟨rfl, fun _ => rfl, fun k x => by kernel_rfl⟩, ⟨rfl, fun _ => rfl, fun k x => by kernel_rfl⟩, ⟨rfl, fun _ => rfl, fun k x => by kernel_rfl⟩, trivial⟩ (fun k x => by kernel_rfl) (fun k => ⟨⟨nat_own.c k, nat_Mul.c k, trivial⟩, trivial, trivial⟩) k
end nat_Pow

namespace ratio_ten
def s0 : PSig := ⟨0, [], [(0, .val (.int .i64)), (3, .val tL)]⟩
def ptL : List (Pt (TD [tL])) := [⟨0, s0, fun k (x : Int × LX) => ratio_ten.p0 k x.1 x.2⟩]
def fns : Nat → List (FuncId × FS) := fun k => [(45, nat_Pow.fs k), (23, nat_Mul.fs k)]
def fs (k : Nat) : FS := ⟨[(.int .i64)], [tL], fun (x : Int) => ratio_ten.f k x⟩
theorem ok : FnO Tryd.prog 21 24 Tryd.f21 1 := okF _ (by kernel_rfl) (by kernel_rfl)
theorem c (k : Nat) : Contract Tryd.prog 21 (fs k) :=
  fnS [(.int .i64)] [tL] ptL fns fgs0 fws0 (fun k (x : Int) => ratio_ten.f k x) ok ⟨⟨rfl, fun _ => rfl, fun k x => by kernel_rfl⟩, trivial⟩ (fun k x => by kernel_rfl) (fun k => ⟨⟨nat_Pow.c k, nat_Mul.c k, trivial⟩, trivial, trivial⟩) k
end ratio_ten

namespace nat_Add
def s7 : PSig := ⟨0, [], [(0, .val tL), (1, .val tL)]⟩
def s0 : PSig := ⟨0, [(40, (.int .u32), false)], [(0, .val tL), (1, .val tL), (5, .own 0), (6, .val (.int .u32)), (21, .val (.int .i64)), (22, .val (.int .i64))]⟩
def s23 : PSig := ⟨0, [(40, (.int .u32), false)], [(0, .val tL), (1, .val tL), (5, .own 0), (6, .val (.int .u32)), (7, .val (.int .i64)), (8, .val (.int .u32)), (21, .val (.int .i64)), (22, .val (.int .i64))]⟩
def ptL : List (Pt (TD [tL])) := [⟨7, s7, fun k (x : LX × LX) => nat_Add.p7 k x.1 x.2⟩, ⟨0, s0, fun k (x : LX × LX × LX × Int × Int × Int) => nat_Add.p0 k x.1 x.2.1 x.2.2.1 x.2.2.2.1 x.2.2.2.2.1 x.2.2.2.2.2⟩, ⟨23, s23, fun k (x : LX × LX × LX × Int × Int × Int × Int × Int) => nat_Add.p23 k x.1 x.2.1 x.2.2.1 x.2.2.2.1 x.2.2.2.2.1 x.2.2.2.2.2.1 x.2.2.2.2.2.2.1 x.2.2.2.2.2.2.2⟩]
def fns : Nat → List (FuncId × FS) := fun k => [(46, bits_Add32.fs k), (40, nat_own.fs k)]
def fs (k : Nat) : FS := ⟨[tL, tL], [tL], fun (x : LX × LX) => nat_Add.f k x.1 x.2⟩
theorem ok : FnO Tryd.prog 22 54 Tryd.f22 2 := okF _ (by kernel_rfl) (by kernel_rfl)
theorem c (k : Nat) : Contract Tryd.prog 22 (fs k) :=
  fnS [tL, tL] [tL] ptL fns fgs0 fws0 (fun k (x : LX × LX) => nat_Add.f k x.1 x.2) ok ⟨⟨rfl, fun _ => rfl, fun k x => by kernel_rfl⟩, ⟨rfl, fun _ => rfl, fun k x => by kernel_rfl⟩, ⟨rfl, fun _ => rfl, fun k x => by kernel_rfl⟩, trivial⟩ (fun k x => by kernel_rfl) (fun k => ⟨⟨bits_Add32.c k, nat_own.c k, trivial⟩, trivial, trivial⟩) k
end nat_Add

namespace ratio_Parse
def s15 : PSig := ⟨0, [(27, tQ, true)], [(2, .ptr 0 [])]⟩
def s25 : PSig := ⟨0, [(27, tQ, true)], [(2, .ptr 0 [])]⟩
def s27 : PSig := ⟨0, [(27, tQ, true)], [(2, .ptr 0 []), (5, .val .bool), (14, .val .str), (16, .val tL)]⟩
def s33 : PSig := ⟨0, [(27, tQ, true)], [(2, .ptr 0 []), (5, .val .bool), (14, .val .str), (16, .val tL), (18, .val .str)]⟩
def ptL : List (Pt (TD [tQ, (.int .i64)])) := [⟨15, s15, fun k (x : RX) => ratio_Parse.p15 k x⟩, ⟨25, s25, fun k (x : RX) => ratio_Parse.p25 k x⟩, ⟨27, s27, fun k (x : RX × Bool × ByteArray × LX) => ratio_Parse.p27 k x.1 x.2.1 x.2.2.1 x.2.2.2⟩, ⟨33, s33, fun k (x : RX × Bool × ByteArray × LX × ByteArray) => ratio_Parse.p33 k x.1 x.2.1 x.2.2.1 x.2.2.2.1 x.2.2.2.2⟩]
def fns : Nat → List (FuncId × FS) := fun k => [(17, strings_CutPrefix.fs k), (18, strings_Cut.fs k), (19, nat_Parse.fs k), (14, ratio_made.fs k), (20, strings_TrimLeft.fs k), (21, ratio_ten.fs k), (23, nat_Mul.fs k), (22, nat_Add.fs k)]
def fs (k : Nat) : FS := ⟨[.str], [tQ, (.int .i64)], fun (x : ByteArray) => ratio_Parse.f k x⟩
theorem ok : FnO Tryd.prog 7 105 Tryd.f7 1 := okF _ (by kernel_rfl) (by kernel_rfl)
theorem c (k : Nat) : Contract Tryd.prog 7 (fs k) :=
  fnS [.str] [tQ, (.int .i64)] ptL fns fgs0 fws0 (fun k (x : ByteArray) => ratio_Parse.f k x) ok ⟨⟨rfl, fun _ => rfl, fun k x => by kernel_rfl⟩, ⟨rfl, fun _ => rfl, fun k x => by kernel_rfl⟩, ⟨rfl, fun _ => rfl, fun k x => by kernel_rfl⟩, ⟨rfl, fun _ => rfl, fun k x => by kernel_rfl⟩, trivial⟩ (fun k x => by kernel_rfl) (fun k => ⟨⟨strings_CutPrefix.c k, strings_Cut.c k, nat_Parse.c k, ratio_made.c k, strings_TrimLeft.c k, ratio_ten.c k, nat_Mul.c k, nat_Add.c k, trivial⟩, trivial, trivial⟩) k
end ratio_Parse

namespace whole_Quo
def ptL : List (Pt (TD [tZ, tZ, (.int .i64)])) := []
def fns : Nat → List (FuncId × FS) := fun k => [(36, nat_Div.fs k), (27, whole_Sign.fs k), (58, whole_signed.fs k)]
def fs (k : Nat) : FS := ⟨[tZ, tZ], [tZ, tZ, (.int .i64)], fun (x : ZX × ZX) => whole_Quo.f k x.1 x.2⟩
theorem ok : FnO Tryd.prog 80 36 Tryd.f80 2 := okF _ (by kernel_rfl) (by kernel_rfl)
theorem c (k : Nat) : Contract Tryd.prog 80 (fs k) :=
  fnS [tZ, tZ] [tZ, tZ, (.int .i64)] ptL fns fgs0 fws0 (fun k (x : ZX × ZX) => whole_Quo.f k x.1 x.2) ok trivial (fun k x => by kernel_rfl) (fun k => ⟨⟨nat_Div.c k, whole_Sign.c k, whole_signed.c k, trivial⟩, trivial, trivial⟩) k
end whole_Quo

namespace nat_Of
def ptL : List (Pt (TD [tL])) := []
def fns : Nat → List (FuncId × FS) := fun k => [(40, nat_own.fs k)]
def fs (k : Nat) : FS := ⟨[(.int .u64)], [tL], fun (x : Int) => nat_Of.f k x⟩
theorem ok : FnO Tryd.prog 88 10 Tryd.f88 1 := okF _ (by kernel_rfl) (by kernel_rfl)
theorem c (k : Nat) : Contract Tryd.prog 88 (fs k) :=
  fnS [(.int .u64)] [tL] ptL fns fgs0 fws0 (fun k (x : Int) => nat_Of.f k x) ok trivial (fun k x => by kernel_rfl) (fun k => ⟨⟨nat_own.c k, trivial⟩, trivial, trivial⟩) k
end nat_Of

namespace whole_Of
def ptL : List (Pt (TD [tZ])) := []
def fns : Nat → List (FuncId × FS) := fun k => [(88, nat_Of.fs k), (58, whole_signed.fs k)]
def fs (k : Nat) : FS := ⟨[(.int .i64)], [tZ], fun (x : Int) => whole_Of.f k x⟩
theorem ok : FnO Tryd.prog 86 15 Tryd.f86 1 := okF _ (by kernel_rfl) (by kernel_rfl)
theorem c (k : Nat) : Contract Tryd.prog 86 (fs k) :=
  fnS [(.int .i64)] [tZ] ptL fns fgs0 fws0 (fun k (x : Int) => whole_Of.f k x) ok trivial (fun k x => by kernel_rfl) (fun k => ⟨⟨nat_Of.c k, whole_signed.c k, trivial⟩, trivial, trivial⟩) k
end whole_Of

namespace nat_Sub
def s0 : PSig := ⟨0, [(40, (.int .u32), false)], [(0, .val tL), (1, .val tL), (6, .own 0), (7, .val (.int .u32)), (20, .val (.int .i64)), (21, .val (.int .i64))]⟩
def s25 : PSig := ⟨0, [(40, (.int .u32), false)], [(0, .val tL), (1, .val tL), (6, .own 0), (7, .val (.int .u32)), (8, .val (.int .i64)), (9, .val (.int .u32)), (20, .val (.int .i64)), (21, .val (.int .i64))]⟩
def ptL : List (Pt (TD [tL, (.int .i64)])) := [⟨0, s0, fun k (x : LX × LX × LX × Int × Int × Int) => nat_Sub.p0 k x.1 x.2.1 x.2.2.1 x.2.2.2.1 x.2.2.2.2.1 x.2.2.2.2.2⟩, ⟨25, s25, fun k (x : LX × LX × LX × Int × Int × Int × Int × Int) => nat_Sub.p25 k x.1 x.2.1 x.2.2.1 x.2.2.2.1 x.2.2.2.2.1 x.2.2.2.2.2.1 x.2.2.2.2.2.2.1 x.2.2.2.2.2.2.2⟩]
def fns : Nat → List (FuncId × FS) := fun k => [(25, nat_Cmp.fs k), (33, nat_trim.fs k), (79, bits_Sub32.fs k), (40, nat_own.fs k)]
def fs (k : Nat) : FS := ⟨[tL, tL], [tL, (.int .i64)], fun (x : LX × LX) => nat_Sub.f k x.1 x.2⟩
theorem ok : FnO Tryd.prog 65 48 Tryd.f65 2 := okF _ (by kernel_rfl) (by kernel_rfl)
theorem c (k : Nat) : Contract Tryd.prog 65 (fs k) :=
  fnS [tL, tL] [tL, (.int .i64)] ptL fns fgs0 fws0 (fun k (x : LX × LX) => nat_Sub.f k x.1 x.2) ok ⟨⟨rfl, fun _ => rfl, fun k x => by kernel_rfl⟩, ⟨rfl, fun _ => rfl, fun k x => by kernel_rfl⟩, trivial⟩ (fun k x => by kernel_rfl) (fun k => ⟨⟨nat_Cmp.c k, nat_trim.c k, bits_Sub32.c k, nat_own.c k, trivial⟩, trivial, trivial⟩) k
end nat_Sub

namespace whole_Add
def ptL : List (Pt (TD [tZ])) := []
def fns : Nat → List (FuncId × FS) := fun k => [(27, whole_Sign.fs k), (22, nat_Add.fs k), (58, whole_signed.fs k), (25, nat_Cmp.fs k), (65, nat_Sub.fs k)]
def fs (k : Nat) : FS := ⟨[tZ, tZ], [tZ], fun (x : ZX × ZX) => whole_Add.f k x.1 x.2⟩
theorem ok : FnO Tryd.prog 50 60 Tryd.f50 2 := okF _ (by kernel_rfl) (by kernel_rfl)
theorem c (k : Nat) : Contract Tryd.prog 50 (fs k) :=
  fnS [tZ, tZ] [tZ] ptL fns fgs0 fws0 (fun k (x : ZX × ZX) => whole_Add.f k x.1 x.2) ok trivial (fun k x => by kernel_rfl) (fun k => ⟨⟨whole_Sign.c k, nat_Add.c k, whole_signed.c k, nat_Cmp.c k, nat_Sub.c k, trivial⟩, trivial, trivial⟩) k
end whole_Add

namespace whole_Neg
def ptL : List (Pt (TD [tZ])) := []
def fns : Nat → List (FuncId × FS) := fun k => [(27, whole_Sign.fs k), (58, whole_signed.fs k)]
def fs (k : Nat) : FS := ⟨[tZ], [tZ], fun (x : ZX) => whole_Neg.f k x⟩
theorem ok : FnO Tryd.prog 64 9 Tryd.f64 1 := okF _ (by kernel_rfl) (by kernel_rfl)
theorem c (k : Nat) : Contract Tryd.prog 64 (fs k) :=
  fnS [tZ] [tZ] ptL fns fgs0 fws0 (fun k (x : ZX) => whole_Neg.f k x) ok trivial (fun k x => by kernel_rfl) (fun k => ⟨⟨whole_Sign.c k, whole_signed.c k, trivial⟩, trivial, trivial⟩) k
end whole_Neg

namespace whole_Sub
def ptL : List (Pt (TD [tZ])) := []
def fns : Nat → List (FuncId × FS) := fun k => [(64, whole_Neg.fs k), (50, whole_Add.fs k)]
def fs (k : Nat) : FS := ⟨[tZ, tZ], [tZ], fun (x : ZX × ZX) => whole_Sub.f k x.1 x.2⟩
theorem ok : FnO Tryd.prog 87 9 Tryd.f87 2 := okF _ (by kernel_rfl) (by kernel_rfl)
theorem c (k : Nat) : Contract Tryd.prog 87 (fs k) :=
  fnS [tZ, tZ] [tZ] ptL fns fgs0 fws0 (fun k (x : ZX × ZX) => whole_Sub.f k x.1 x.2) ok trivial (fun k x => by kernel_rfl) (fun k => ⟨⟨whole_Neg.c k, whole_Add.c k, trivial⟩, trivial, trivial⟩) k
end whole_Sub

namespace whole_moved
def ptL : List (Pt (TD [tZ, tZ, (.int .i64)])) := []
def fns : Nat → List (FuncId × FS) := fun k => [(27, whole_Sign.fs k), (86, whole_Of.fs k), (50, whole_Add.fs k), (87, whole_Sub.fs k)]
def fs (k : Nat) : FS := ⟨[tZ, tZ, tZ, .bool], [tZ, tZ, (.int .i64)], fun (x : ZX × ZX × ZX × Bool) => whole_moved.f k x.1 x.2.1 x.2.2.1 x.2.2.2⟩
theorem ok : FnO Tryd.prog 81 32 Tryd.f81 4 := okF _ (by kernel_rfl) (by kernel_rfl)
theorem c (k : Nat) : Contract Tryd.prog 81 (fs k) :=
  fnS [tZ, tZ, tZ, .bool] [tZ, tZ, (.int .i64)] ptL fns fgs0 fws0 (fun k (x : ZX × ZX × ZX × Bool) => whole_moved.f k x.1 x.2.1 x.2.2.1 x.2.2.2) ok trivial (fun k x => by kernel_rfl) (fun k => ⟨⟨whole_Sign.c k, whole_Of.c k, whole_Add.c k, whole_Sub.c k, trivial⟩, trivial, trivial⟩) k
end whole_moved

namespace whole_Floor
def ptL : List (Pt (TD [tZ, tZ, (.int .i64)])) := []
def fns : Nat → List (FuncId × FS) := fun k => [(80, whole_Quo.fs k), (27, whole_Sign.fs k), (81, whole_moved.fs k)]
def fs (k : Nat) : FS := ⟨[tZ, tZ], [tZ, tZ, (.int .i64)], fun (x : ZX × ZX) => whole_Floor.f k x.1 x.2⟩
theorem ok : FnO Tryd.prog 66 35 Tryd.f66 2 := okF _ (by kernel_rfl) (by kernel_rfl)
theorem c (k : Nat) : Contract Tryd.prog 66 (fs k) :=
  fnS [tZ, tZ] [tZ, tZ, (.int .i64)] ptL fns fgs0 fws0 (fun k (x : ZX × ZX) => whole_Floor.f k x.1 x.2) ok trivial (fun k x => by kernel_rfl) (fun k => ⟨⟨whole_Quo.c k, whole_Sign.c k, whole_moved.c k, trivial⟩, trivial, trivial⟩) k
end whole_Floor

namespace ratio_Floor
def ptL : List (Pt (TD [tZ])) := []
def fns : Nat → List (FuncId × FS) := fun k => [(5, ratio_Norm.fs k), (66, whole_Floor.fs k)]
def fs (k : Nat) : FS := ⟨[tQ], [tZ], fun (x : RX) => ratio_Floor.f k x⟩
theorem ok : FnO Tryd.prog 53 19 Tryd.f53 1 := okF _ (by kernel_rfl) (by kernel_rfl)
theorem c (k : Nat) : Contract Tryd.prog 53 (fs k) :=
  fnS [tQ] [tZ] ptL fns fgs0 fws0 (fun k (x : RX) => ratio_Floor.f k x) ok trivial (fun k x => by kernel_rfl) (fun k => ⟨⟨ratio_Norm.c k, whole_Floor.c k, trivial⟩, trivial, trivial⟩) k
end ratio_Floor

namespace ratio_of
def ptL : List (Pt (TD [tQ])) := []
def fns : Nat → List (FuncId × FS) := fun k => [(37, whole_Norm.fs k)]
def fs (k : Nat) : FS := ⟨[tZ], [tQ], fun (x : ZX) => ratio_of.f k x⟩
theorem ok : FnO Tryd.prog 28 7 Tryd.f28 1 := okF _ (by kernel_rfl) (by kernel_rfl)
theorem c (k : Nat) : Contract Tryd.prog 28 (fs k) :=
  fnS [tZ] [tQ] ptL fns fgs0 fws0 (fun k (x : ZX) => ratio_of.f k x) ok trivial (fun k x => by kernel_rfl) (fun k => ⟨⟨whole_Norm.c k, trivial⟩, trivial, trivial⟩) k
end ratio_of

namespace ratio_Neg
def ptL : List (Pt (TD [tQ])) := []
def fns : Nat → List (FuncId × FS) := fun k => [(5, ratio_Norm.fs k), (64, whole_Neg.fs k)]
def fs (k : Nat) : FS := ⟨[tQ], [tQ], fun (x : RX) => ratio_Neg.f k x⟩
theorem ok : FnO Tryd.prog 67 11 Tryd.f67 1 := okF _ (by kernel_rfl) (by kernel_rfl)
theorem c (k : Nat) : Contract Tryd.prog 67 (fs k) :=
  fnS [tQ] [tQ] ptL fns fgs0 fws0 (fun k (x : RX) => ratio_Neg.f k x) ok trivial (fun k x => by kernel_rfl) (fun k => ⟨⟨ratio_Norm.c k, whole_Neg.c k, trivial⟩, trivial, trivial⟩) k
end ratio_Neg

namespace whole_Mul
def ptL : List (Pt (TD [tZ])) := []
def fns : Nat → List (FuncId × FS) := fun k => [(23, nat_Mul.fs k), (27, whole_Sign.fs k), (58, whole_signed.fs k)]
def fs (k : Nat) : FS := ⟨[tZ, tZ], [tZ], fun (x : ZX × ZX) => whole_Mul.f k x.1 x.2⟩
theorem ok : FnO Tryd.prog 51 16 Tryd.f51 2 := okF _ (by kernel_rfl) (by kernel_rfl)
theorem c (k : Nat) : Contract Tryd.prog 51 (fs k) :=
  fnS [tZ, tZ] [tZ] ptL fns fgs0 fws0 (fun k (x : ZX × ZX) => whole_Mul.f k x.1 x.2) ok trivial (fun k x => by kernel_rfl) (fun k => ⟨⟨nat_Mul.c k, whole_Sign.c k, whole_signed.c k, trivial⟩, trivial, trivial⟩) k
end whole_Mul

namespace ratio_Add
def ptL : List (Pt (TD [tQ])) := []
def fns : Nat → List (FuncId × FS) := fun k => [(5, ratio_Norm.fs k), (51, whole_Mul.fs k), (50, whole_Add.fs k), (23, nat_Mul.fs k), (14, ratio_made.fs k)]
def fs (k : Nat) : FS := ⟨[tQ, tQ], [tQ], fun (x : RX × RX) => ratio_Add.f k x.1 x.2⟩
theorem ok : FnO Tryd.prog 30 30 Tryd.f30 2 := okF _ (by kernel_rfl) (by kernel_rfl)
theorem c (k : Nat) : Contract Tryd.prog 30 (fs k) :=
  fnS [tQ, tQ] [tQ] ptL fns fgs0 fws0 (fun k (x : RX × RX) => ratio_Add.f k x.1 x.2) ok trivial (fun k x => by kernel_rfl) (fun k => ⟨⟨ratio_Norm.c k, whole_Mul.c k, whole_Add.c k, nat_Mul.c k, ratio_made.c k, trivial⟩, trivial, trivial⟩) k
end ratio_Add

namespace ratio_Sub
def ptL : List (Pt (TD [tQ])) := []
def fns : Nat → List (FuncId × FS) := fun k => [(67, ratio_Neg.fs k), (30, ratio_Add.fs k)]
def fs (k : Nat) : FS := ⟨[tQ, tQ], [tQ], fun (x : RX × RX) => ratio_Sub.f k x.1 x.2⟩
theorem ok : FnO Tryd.prog 54 9 Tryd.f54 2 := okF _ (by kernel_rfl) (by kernel_rfl)
theorem c (k : Nat) : Contract Tryd.prog 54 (fs k) :=
  fnS [tQ, tQ] [tQ] ptL fns fgs0 fws0 (fun k (x : RX × RX) => ratio_Sub.f k x.1 x.2) ok trivial (fun k x => by kernel_rfl) (fun k => ⟨⟨ratio_Neg.c k, ratio_Add.c k, trivial⟩, trivial, trivial⟩) k
end ratio_Sub

namespace ratio_Of
def s11 : PSig := ⟨0, [(25, tZ, true), (25, tZ, true), (27, tQ, true)], [(2, .ptr 0 []), (3, .ptr 1 []), (4, .ptr 2 [])]⟩
def ptL : List (Pt (TD [tQ, (.int .i64)])) := [⟨11, s11, fun k (x : ZX × ZX × RX) => ratio_Of.p11 k x.1 x.2.1 x.2.2⟩]
def fns : Nat → List (FuncId × FS) := fun k => [(27, whole_Sign.fs k), (64, whole_Neg.fs k), (14, ratio_made.fs k)]
def fs (k : Nat) : FS := ⟨[tZ, tZ], [tQ, (.int .i64)], fun (x : ZX × ZX) => ratio_Of.f k x.1 x.2⟩
theorem ok : FnO Tryd.prog 49 19 Tryd.f49 2 := okF _ (by kernel_rfl) (by kernel_rfl)
theorem c (k : Nat) : Contract Tryd.prog 49 (fs k) :=
  fnS [tZ, tZ] [tQ, (.int .i64)] ptL fns fgs0 fws0 (fun k (x : ZX × ZX) => ratio_Of.f k x.1 x.2) ok ⟨⟨rfl, fun _ => rfl, fun k x => by kernel_rfl⟩, trivial⟩ (fun k x => by kernel_rfl) (fun k => ⟨⟨whole_Sign.c k, whole_Neg.c k, ratio_made.c k, trivial⟩, trivial, trivial⟩) k
end ratio_Of

namespace ratio_Inv
def ptL : List (Pt (TD [tQ, (.int .i64)])) := []
def fns : Nat → List (FuncId × FS) := fun k => [(5, ratio_Norm.fs k), (49, ratio_Of.fs k)]
def fs (k : Nat) : FS := ⟨[tQ], [tQ, (.int .i64)], fun (x : RX) => ratio_Inv.f k x⟩
theorem ok : FnO Tryd.prog 29 14 Tryd.f29 1 := okF _ (by kernel_rfl) (by kernel_rfl)
theorem c (k : Nat) : Contract Tryd.prog 29 (fs k) :=
  fnS [tQ] [tQ, (.int .i64)] ptL fns fgs0 fws0 (fun k (x : RX) => ratio_Inv.f k x) ok trivial (fun k x => by kernel_rfl) (fun k => ⟨⟨ratio_Norm.c k, ratio_Of.c k, trivial⟩, trivial, trivial⟩) k
end ratio_Inv

namespace ratio_Expand
theorem c (k : Nat) : Contract Tryd.prog 10 ⟨[ptQ], [.list ptZ], fun (x : ZX × LX) => ratio_Expand.f k x⟩ := expand_contract (fl := ratio_Floor.f) (fo := ratio_of.f) (fs := fun k x => ratio_Sub.f k x.1 x.2) (fi := ratio_Inv.f) ⟨ratio_Floor.c, ratio_of.c, ratio_Sub.c, ratio_Inv.c⟩ k
end ratio_Expand

namespace ratio_Fold
def s0 : PSig := ⟨0, [(27, tQ, true)], [(0, .val (.list tZ)), (2, .ptr 0 []), (15, .val (.list tZ)), (16, .val (.int .i64)), (17, .val (.int .i64))]⟩
def s4 : PSig := ⟨0, [(27, tQ, true), (27, tQ, true)], [(0, .val (.list tZ)), (2, .ptr 0 []), (6, .ptr 1 []), (7, .val (.int .i64))]⟩
def ptL : List (Pt (TD [tQ, (.int .i64)])) := [⟨0, s0, fun k (x : RX × (List ZX) × (List ZX) × Int × Int) => ratio_Fold.p0 k x.1 x.2.1 x.2.2.1 x.2.2.2.1 x.2.2.2.2⟩, ⟨4, s4, fun k (x : RX × RX × (List ZX) × Int) => ratio_Fold.p4 k x.1 x.2.1 x.2.2.1 x.2.2.2⟩]
def fns : Nat → List (FuncId × FS) := fun k => [(27, whole_Sign.fs k), (28, ratio_of.fs k), (29, ratio_Inv.fs k), (30, ratio_Add.fs k)]
def fs (k : Nat) : FS := ⟨[(.list tZ)], [tQ, (.int .i64)], fun (x : (List ZX)) => ratio_Fold.f k x⟩
theorem ok : FnO Tryd.prog 9 53 Tryd.f9 1 := okF _ (by kernel_rfl) (by kernel_rfl)
theorem c (k : Nat) : Contract Tryd.prog 9 (fs k) :=
  fnS [(.list tZ)] [tQ, (.int .i64)] ptL fns fgs0 fws0 (fun k (x : (List ZX)) => ratio_Fold.f k x) ok ⟨⟨rfl, fun _ => rfl, fun k x => by kernel_rfl⟩, ⟨rfl, fun _ => rfl, fun k x => by kernel_rfl⟩, trivial⟩ (fun k x => by kernel_rfl) (fun k => ⟨⟨whole_Sign.c k, ratio_of.c k, ratio_Inv.c k, ratio_Add.c k, trivial⟩, trivial, trivial⟩) k
end ratio_Fold

namespace ref01_Same
def s0 : PSig := ⟨0, [], [(0, .val tL), (1, .val tL), (5, .val (.int .i64))]⟩
def ptL : List (Pt (TD [.bool])) := [⟨0, s0, fun k (x : LX × LX × Int) => ref01_Same.p0 k x.1 x.2.1 x.2.2⟩]
def fs (k : Nat) : FS := ⟨[tL, tL], [.bool], fun (x : LX × LX) => ref01_Same.f k x.1 x.2⟩
theorem ok : FnO Tryd.prog 55 26 Tryd.f55 2 := okF _ (by kernel_rfl) (by kernel_rfl)
theorem c (k : Nat) : Contract Tryd.prog 55 (fs k) :=
  fnS [tL, tL] [.bool] ptL fns0 fgs0 fws0 (fun k (x : LX × LX) => ref01_Same.f k x.1 x.2) ok ⟨⟨rfl, fun _ => rfl, fun k x => by kernel_rfl⟩, trivial⟩ (fun k x => by kernel_rfl) (fun _ => ⟨trivial, trivial, trivial⟩) k
end ref01_Same

namespace ref03_Same
def ptL : List (Pt (TD [.bool])) := []
def fns : Nat → List (FuncId × FS) := fun k => [(55, ref01_Same.fs k)]
def fs (k : Nat) : FS := ⟨[tQ, tQ], [.bool], fun (x : RX × RX) => ref03_Same.f k x.1 x.2⟩
theorem ok : FnO Tryd.prog 32 28 Tryd.f32 2 := okF _ (by kernel_rfl) (by kernel_rfl)
theorem c (k : Nat) : Contract Tryd.prog 32 (fs k) :=
  fnS [tQ, tQ] [.bool] ptL fns fgs0 fws0 (fun k (x : RX × RX) => ref03_Same.f k x.1 x.2) ok trivial (fun k x => by kernel_rfl) (fun k => ⟨⟨ref01_Same.c k, trivial⟩, trivial, trivial⟩) k
end ref03_Same

namespace law03_same
def ptL : List (Pt (TD [.bool])) := []
def fns : Nat → List (FuncId × FS) := fun k => [(32, ref03_Same.fs k)]
def fs (k : Nat) : FS := ⟨[tQ, tQ], [.bool], fun (x : RX × RX) => law03_same.f k x.1 x.2⟩
theorem ok : FnO Tryd.prog 12 8 Tryd.f12 2 := okF _ (by kernel_rfl) (by kernel_rfl)
theorem c (k : Nat) : Contract Tryd.prog 12 (fs k) :=
  fnS [tQ, tQ] [.bool] ptL fns fgs0 fws0 (fun k (x : RX × RX) => law03_same.f k x.1 x.2) ok trivial (fun k x => by kernel_rfl) (fun k => ⟨⟨ref03_Same.c k, trivial⟩, trivial, trivial⟩) k
end law03_same

namespace law03_half
def ptL : List (Pt (TD [.bool])) := []
def fns : Nat → List (FuncId × FS) := fun k => [(7, ratio_Parse.fs k), (12, law03_same.fs k)]
def fs (k : Nat) : FS := ⟨[], [.bool], fun (x : Unit) => law03_half.f k x⟩
theorem ok : FnO Tryd.prog 11 17 Tryd.f11 0 := okF _ (by kernel_rfl) (by kernel_rfl)
theorem c (k : Nat) : Contract Tryd.prog 11 (fs k) :=
  fnS [] [.bool] ptL fns fgs0 fws0 (fun k (x : Unit) => law03_half.f k x) ok trivial (fun k x => by kernel_rfl) (fun k => ⟨⟨ratio_Parse.c k, law03_same.c k, trivial⟩, trivial, trivial⟩) k
end law03_half

namespace law03_RatioBack
def ptL : List (Pt (TD [.bool])) := []
def fns : Nat → List (FuncId × FS) := fun k => [(4, law03_within.fs k), (6, law03_twin.fs k), (5, ratio_Norm.fs k), (8, ratio_Text.fs k), (7, ratio_Parse.fs k), (10, ⟨[tQ], [(.list tZ)], fun (x : RX) => ratio_Expand.f k x⟩), (9, ratio_Fold.fs k), (11, law03_half.fs k), (12, law03_same.fs k)]
def fs (k : Nat) : FS := ⟨[tQ], [.bool], fun (x : RX) => law03_RatioBack.f k x⟩
theorem ok : FnO Tryd.prog 3 46 Tryd.f3 1 := okF _ (by kernel_rfl) (by kernel_rfl)
theorem c (k : Nat) : Contract Tryd.prog 3 (fs k) :=
  fnS [tQ] [.bool] ptL fns fgs0 fws0 (fun k (x : RX) => law03_RatioBack.f k x) ok trivial (fun k x => by kernel_rfl) (fun k => ⟨⟨law03_within.c k, law03_twin.c k, ratio_Norm.c k, ratio_Text.c k, ratio_Parse.c k, ratio_Expand.c k, ratio_Fold.c k, law03_half.c k, law03_same.c k, trivial⟩, trivial, trivial⟩) k
end law03_RatioBack
end Go.Proofs.YtllpdchpjhgkgaaDoor
