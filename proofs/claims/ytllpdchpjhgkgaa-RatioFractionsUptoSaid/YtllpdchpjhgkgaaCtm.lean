/- Contracts, printed by fgen.py. -/
import Derived.Test.YtllpdchpjhgkgaaPlm
import Derived.Test.YtllpdchpjhgkgaaProg
import Derived.Test.YtllpdchpjhgkgaaExm
namespace Go.Proofs.Ytllpdchpjhgkgaa
open Go.FK
theorem mix : Try.prog.follows .mixedOrders = true ∧ ArrsOk Try.prog := ⟨by kernel_rfl, arrsB_ok (by kernel_rfl)⟩
def tyTab : List (TypeId × TI) := [(2, ⟨(.int .i64), 0, 0⟩), (3, ⟨(.int .i64), 0, 0⟩), (4, ⟨.bool, 0, 0⟩), (5, ⟨(.int .u8), 0, 0⟩), (9, ⟨.str, 0, 0⟩), (23, ⟨(.list (.int .u32)), 47, 4⟩), (25, ⟨(.st (.pair .bool (.list (.int .u32)))), 0, 0⟩), (27, ⟨(.st (.pair (.st (.pair .bool (.list (.int .u32)))) (.list (.int .u32)))), 0, 0⟩), (28, ⟨(.list (.st (.pair .bool (.list (.int .u32))))), 25, 32⟩), (42, ⟨(.int .i64), 0, 0⟩), (47, ⟨(.int .u32), 0, 0⟩), (69, ⟨(.int .u64), 0, 0⟩), (71, ⟨(.int .u64), 0, 0⟩), (73, ⟨(.list (.int .i64)), 3, 8⟩), (84, ⟨.nilI, 0, 0⟩)]
theorem tyOk : tysB Try.prog tyTab = true := by kernel_rfl

abbrev tL : Ty := .list (.int .u32)
abbrev tZ : Ty := .st (.pair .bool (.list (.int .u32)))
abbrev tQ : Ty := .st (.pair (.st (.pair .bool (.list (.int .u32)))) (.list (.int .u32)))
def fws0 : Nat → List (FuncId × FW) := fun _ => []
def fns0 : Nat → List (FuncId × FS) := fun _ => []
def fgs0 : Nat → List (FuncId × FG) := fun _ => []
abbrev FnO (P : Program) (f : FuncId) (n : Nat) (fn : Func) (np : Nat) : Prop := FnOk P f n fn.results.toList (fn.body.getD .skip) np
theorem okF {P : Program} {f : FuncId} {n np : Nat} (fn : Func) (h : P.funcs[f]? = some fn) (hb : (fn.body.isSome && (fn.ntmps == n && (!(fn.name == "runtime.NumGoroutine") && (Go.FK.distinct (ptsOf 0 (fn.body.getD .skip)) && Nat.ble np n)))) = true) : FnO P f n fn np := by
  simp only [Bool.and_eq_true, Bool.not_eq_true', beq_iff_eq, Nat.ble_eq] at hb
  obtain ⟨h1, h2, h3, h4, h5⟩ := hb
  refine ⟨⟨fn, h, ?_, h2, rfl, h3⟩, h4, h5⟩
  cases hc : fn.body with
  | none => rw [hc] at h1; cases h1
  | some c => rfl
theorem fnS (ps rs : List Ty) (pts : List (Pt (TD rs))) (fns : Nat → List (FuncId × FS)) (fgs : Nat → List (FuncId × FG)) (fws : Nat → List (FuncId × FW)) (main : Nat → TD ps → Option (TD rs)) {f : FuncId} {n : Nat} {rv : List ResultVar} {c : Code} (hf : FnOk Try.prog f n rv c ps.length) (hpt : PtsOk (mkE tyTab fns fgs fws pts) 0 n (endK (lookT tyTab) rv rs) c pts) (hmain : ∀ k x, fnK (mkE tyTab fns fgs fws pts k) n rv c (encT ps x) = main k x) (hall : ∀ k, AllK Try.prog (fns k) (fgs k) (fws k)) (k : Nat) : Contract Try.prog f ⟨ps, rs, main k⟩ := fn_sound hf mix tyOk hpt hmain hall k

namespace law03_nat
def s0 : PSig := ⟨0, [(47, (.int .u32), false)], [(0, .val tL), (3, .own 0), (4, .val (.int .i64))]⟩
def ptL : List (Pt (TD [tL])) := [⟨0, s0, fun k (x : LX × LX × Int) => law03_nat.p0 k x.1 x.2.1 x.2.2⟩]
def fs (k : Nat) : FS := ⟨[tL], [tL], fun (x : LX) => law03_nat.f k x⟩
theorem ok : FnO Try.prog 10 22 Try.f10 1 := okF _ (by kernel_rfl) (by kernel_rfl)
theorem c (k : Nat) : Contract Try.prog 10 (fs k) :=
  fnS [tL] [tL] ptL fns0 fgs0 fws0 (fun k (x : LX) => law03_nat.f k x) ok ⟨⟨rfl, fun _ => rfl, fun k x => by kernel_rfl⟩, trivial⟩ (fun k x => by kernel_rfl) (fun _ => ⟨trivial, trivial, trivial⟩) k
end law03_nat

namespace law03_whole
def ptL : List (Pt (TD [tZ])) := []
def fns : Nat → List (FuncId × FS) := fun k => [(10, law03_nat.fs k)]
def fs (k : Nat) : FS := ⟨[tZ], [tZ], fun (x : ZX) => law03_whole.f k x⟩
theorem ok : FnO Try.prog 9 9 Try.f9 1 := okF _ (by kernel_rfl) (by kernel_rfl)
theorem c (k : Nat) : Contract Try.prog 9 (fs k) :=
  fnS [tZ] [tZ] ptL fns fgs0 fws0 (fun k (x : ZX) => law03_whole.f k x) ok trivial (fun k x => by kernel_rfl) (fun k => ⟨⟨law03_nat.c k, trivial⟩, trivial, trivial⟩) k
end law03_whole

namespace law03_twin
def ptL : List (Pt (TD [tQ])) := []
def fns : Nat → List (FuncId × FS) := fun k => [(9, law03_whole.fs k), (10, law03_nat.fs k)]
def fs (k : Nat) : FS := ⟨[tQ], [tQ], fun (x : RX) => law03_twin.f k x⟩
theorem ok : FnO Try.prog 5 10 Try.f5 1 := okF _ (by kernel_rfl) (by kernel_rfl)
theorem c (k : Nat) : Contract Try.prog 5 (fs k) :=
  fnS [tQ] [tQ] ptL fns fgs0 fws0 (fun k (x : RX) => law03_twin.f k x) ok trivial (fun k x => by kernel_rfl) (fun k => ⟨⟨law03_whole.c k, law03_nat.c k, trivial⟩, trivial, trivial⟩) k
end law03_twin

namespace nat_trim
def s0 : PSig := ⟨0, [], [(0, .val tL), (3, .val (.int .i64))]⟩
def s9 : PSig := ⟨0, [], [(0, .val tL), (3, .val (.int .i64))]⟩
def ptL : List (Pt (TD [tL])) := [⟨0, s0, fun k (x : LX × Int) => nat_trim.p0 k x.1 x.2⟩, ⟨9, s9, fun k (x : LX × Int) => nat_trim.p9 k x.1 x.2⟩]
def fs (k : Nat) : FS := ⟨[tL], [tL], fun (x : LX) => nat_trim.f k x⟩
theorem ok : FnO Try.prog 64 21 Try.f64 1 := okF _ (by kernel_rfl) (by kernel_rfl)
theorem c (k : Nat) : Contract Try.prog 64 (fs k) :=
  fnS [tL] [tL] ptL fns0 fgs0 fws0 (fun k (x : LX) => nat_trim.f k x) ok ⟨⟨rfl, fun _ => rfl, fun k x => by kernel_rfl⟩, ⟨rfl, fun _ => rfl, fun k x => by kernel_rfl⟩, trivial⟩ (fun k x => by kernel_rfl) (fun _ => ⟨trivial, trivial, trivial⟩) k
end nat_trim

namespace bits_Len32
def s9 : PSig := ⟨0, [], [(0, .val (.int .u32)), (2, .val (.int .i64))]⟩
def s15 : PSig := ⟨0, [], [(0, .val (.int .u32)), (2, .val (.int .i64))]⟩
def ptL : List (Pt (TD [(.int .i64)])) := [⟨9, s9, fun k (x : Int × Int) => bits_Len32.p9 k x.1 x.2⟩, ⟨15, s15, fun k (x : Int × Int) => bits_Len32.p15 k x.1 x.2⟩]
def fs (k : Nat) : FS := ⟨[(.int .u32)], [(.int .i64)], fun (x : Int) => bits_Len32.f k x⟩
theorem ok : FnO Try.prog 65 19 Try.f65 1 := okF _ (by kernel_rfl) (by kernel_rfl)
theorem c (k : Nat) : Contract Try.prog 65 (fs k) :=
  fnS [(.int .u32)] [(.int .i64)] ptL fns0 fgs0 fws0 (fun k (x : Int) => bits_Len32.f k x) ok ⟨⟨rfl, fun _ => rfl, fun k x => by kernel_rfl⟩, ⟨rfl, fun _ => rfl, fun k x => by kernel_rfl⟩, trivial⟩ (fun k x => by kernel_rfl) (fun _ => ⟨trivial, trivial, trivial⟩) k
end bits_Len32

namespace nat_Bits
def ptL : List (Pt (TD [(.int .i64)])) := []
def fns : Nat → List (FuncId × FS) := fun k => [(64, nat_trim.fs k), (65, bits_Len32.fs k)]
def fs (k : Nat) : FS := ⟨[tL], [(.int .i64)], fun (x : LX) => nat_Bits.f k x⟩
theorem ok : FnO Try.prog 46 20 Try.f46 1 := okF _ (by kernel_rfl) (by kernel_rfl)
theorem c (k : Nat) : Contract Try.prog 46 (fs k) :=
  fnS [tL] [(.int .i64)] ptL fns fgs0 fws0 (fun k (x : LX) => nat_Bits.f k x) ok trivial (fun k x => by kernel_rfl) (fun k => ⟨⟨nat_trim.c k, bits_Len32.c k, trivial⟩, trivial, trivial⟩) k
end nat_Bits

namespace nat_own
def ptL : List (Pt (TD [tL])) := []
def fns : Nat → List (FuncId × FS) := fun k => [(64, nat_trim.fs k)]
def fs (k : Nat) : FS := ⟨[tL], [tL], fun (x : LX) => nat_own.f k x⟩
theorem ok : FnO Try.prog 74 16 Try.f74 1 := okF _ (by kernel_rfl) (by kernel_rfl)
theorem c (k : Nat) : Contract Try.prog 74 (fs k) :=
  fnS [tL] [tL] ptL fns fgs0 fws0 (fun k (x : LX) => nat_own.f k x) ok trivial (fun k x => by kernel_rfl) (fun k => ⟨⟨nat_trim.c k, trivial⟩, trivial, trivial⟩) k
def fw (k : Nat) : FW := ⟨[tL], 47, (.int .u32), false, fun (x : LX) => nat_own.f k x⟩
def ptW : List (Pt (List (Ty.D (.int .u32)))) := []
theorem cw (k : Nat) : ContractW Try.prog 74 (fw k) :=
  fn_soundW (ps := [tL]) (e := 47) (t := (.int .u32)) (bx := false) (pts := ptW) (fns := fns) (fgs := fgs0) (fws := fws0) (tys := tyTab) (main := fun k (x : LX) => nat_own.f k x) ok mix tyOk trivial (fun k x => by kernel_rfl) (fun k => ⟨⟨nat_trim.c k, trivial⟩, trivial, trivial⟩) k
end nat_own

namespace nat_Cmp
def s0 : PSig := ⟨0, [], [(0, .val tL), (1, .val tL), (5, .val (.int .i64))]⟩
def ptL : List (Pt (TD [(.int .i64)])) := [⟨0, s0, fun k (x : LX × LX × Int) => nat_Cmp.p0 k x.1 x.2.1 x.2.2⟩]
def fns : Nat → List (FuncId × FS) := fun k => [(64, nat_trim.fs k)]
def fs (k : Nat) : FS := ⟨[tL, tL], [(.int .i64)], fun (x : LX × LX) => nat_Cmp.f k x.1 x.2⟩
theorem ok : FnO Try.prog 72 45 Try.f72 2 := okF _ (by kernel_rfl) (by kernel_rfl)
theorem c (k : Nat) : Contract Try.prog 72 (fs k) :=
  fnS [tL, tL] [(.int .i64)] ptL fns fgs0 fws0 (fun k (x : LX × LX) => nat_Cmp.f k x.1 x.2) ok ⟨⟨rfl, fun _ => rfl, fun k x => by kernel_rfl⟩, trivial⟩ (fun k x => by kernel_rfl) (fun k => ⟨⟨nat_trim.c k, trivial⟩, trivial, trivial⟩) k
end nat_Cmp

namespace bits_Div32
def s7 : PSig := ⟨0, [], [(0, .val (.int .u32)), (1, .val (.int .u32)), (2, .val (.int .u32))]⟩
def ptL : List (Pt (TD [(.int .u32), (.int .u32)])) := [⟨7, s7, fun k (x : Int × Int × Int) => bits_Div32.p7 k x.1 x.2.1 x.2.2⟩]
def fs (k : Nat) : FS := ⟨[(.int .u32), (.int .u32), (.int .u32)], [(.int .u32), (.int .u32)], fun (x : Int × Int × Int) => bits_Div32.f k x.1 x.2.1 x.2.2⟩
theorem ok : FnO Try.prog 82 33 Try.f82 3 := okF _ (by kernel_rfl) (by kernel_rfl)
theorem c (k : Nat) : Contract Try.prog 82 (fs k) :=
  fnS [(.int .u32), (.int .u32), (.int .u32)] [(.int .u32), (.int .u32)] ptL fns0 fgs0 fws0 (fun k (x : Int × Int × Int) => bits_Div32.f k x.1 x.2.1 x.2.2) ok ⟨⟨rfl, fun _ => rfl, fun k x => by kernel_rfl⟩, trivial⟩ (fun k x => by kernel_rfl) (fun _ => ⟨trivial, trivial, trivial⟩) k
end bits_Div32

namespace nat_short
def s0 : PSig := ⟨0, [(47, (.int .u32), false)], [(0, .val tL), (1, .val (.int .u32)), (6, .own 0), (7, .val (.int .u32)), (8, .val (.int .i64))]⟩
def ptL : List (Pt (TD [tL, (.int .u32)])) := [⟨0, s0, fun k (x : LX × LX × Int × Int × Int) => nat_short.p0 k x.1 x.2.1 x.2.2.1 x.2.2.2.1 x.2.2.2.2⟩]
def fns : Nat → List (FuncId × FS) := fun k => [(82, bits_Div32.fs k)]
def fs (k : Nat) : FS := ⟨[tL, (.int .u32)], [tL, (.int .u32)], fun (x : LX × Int) => nat_short.f k x.1 x.2⟩
theorem ok : FnO Try.prog 77 34 Try.f77 2 := okF _ (by kernel_rfl) (by kernel_rfl)
theorem c (k : Nat) : Contract Try.prog 77 (fs k) :=
  fnS [tL, (.int .u32)] [tL, (.int .u32)] ptL fns fgs0 fws0 (fun k (x : LX × Int) => nat_short.f k x.1 x.2) ok ⟨⟨rfl, fun _ => rfl, fun k x => by kernel_rfl⟩, trivial⟩ (fun k x => by kernel_rfl) (fun k => ⟨⟨bits_Div32.c k, trivial⟩, trivial, trivial⟩) k
end nat_short

namespace bits_LeadingZeros32
def ptL : List (Pt (TD [(.int .i64)])) := []
def fns : Nat → List (FuncId × FS) := fun k => [(65, bits_Len32.fs k)]
def fs (k : Nat) : FS := ⟨[(.int .u32)], [(.int .i64)], fun (x : Int) => bits_LeadingZeros32.f k x⟩
theorem ok : FnO Try.prog 83 6 Try.f83 1 := okF _ (by kernel_rfl) (by kernel_rfl)
theorem c (k : Nat) : Contract Try.prog 83 (fs k) :=
  fnS [(.int .u32)] [(.int .i64)] ptL fns fgs0 fws0 (fun k (x : Int) => bits_LeadingZeros32.f k x) ok trivial (fun k x => by kernel_rfl) (fun k => ⟨⟨bits_Len32.c k, trivial⟩, trivial, trivial⟩) k
end bits_LeadingZeros32

namespace nat_moved
def s0 : PSig := ⟨0, [(47, (.int .u32), false)], [(0, .val tL), (1, .val (.int .i64)), (5, .own 0), (12, .val (.int .i64)), (13, .val (.int .i64))]⟩
def ptL : List (Pt (TD [tL])) := [⟨0, s0, fun k (x : LX × LX × Int × Int × Int) => nat_moved.p0 k x.1 x.2.1 x.2.2.1 x.2.2.2.1 x.2.2.2.2⟩]
def fs (k : Nat) : FS := ⟨[tL, (.int .i64)], [tL], fun (x : LX × Int) => nat_moved.f k x.1 x.2⟩
theorem ok : FnO Try.prog 84 43 Try.f84 2 := okF _ (by kernel_rfl) (by kernel_rfl)
theorem c (k : Nat) : Contract Try.prog 84 (fs k) :=
  fnS [tL, (.int .i64)] [tL] ptL fns0 fgs0 fws0 (fun k (x : LX × Int) => nat_moved.f k x.1 x.2) ok ⟨⟨rfl, fun _ => rfl, fun k x => by kernel_rfl⟩, trivial⟩ (fun k x => by kernel_rfl) (fun _ => ⟨trivial, trivial, trivial⟩) k
def fw (k : Nat) : FW := ⟨[tL, (.int .i64)], 47, (.int .u32), false, fun (x : LX × Int) => nat_moved.f k x.1 x.2⟩
def ptW : List (Pt (List (Ty.D (.int .u32)))) := [⟨0, s0, fun k (x : LX × LX × Int × Int × Int) => nat_moved.p0 k x.1 x.2.1 x.2.2.1 x.2.2.2.1 x.2.2.2.2⟩]
theorem cw (k : Nat) : ContractW Try.prog 84 (fw k) :=
  fn_soundW (ps := [tL, (.int .i64)]) (e := 47) (t := (.int .u32)) (bx := false) (pts := ptW) (fns := fns0) (fgs := fgs0) (fws := fws0) (tys := tyTab) (main := fun k (x : LX × Int) => nat_moved.f k x.1 x.2) ok mix tyOk ⟨⟨rfl, fun _ => rfl, fun k x => by kernel_rfl⟩, trivial⟩ (fun k x => by kernel_rfl) (fun _ => ⟨trivial, trivial, trivial⟩) k
end nat_moved

namespace bits_Sub32
def ptL : List (Pt (TD [(.int .u32), (.int .u32)])) := []
def fs (k : Nat) : FS := ⟨[(.int .u32), (.int .u32), (.int .u32)], [(.int .u32), (.int .u32)], fun (x : Int × Int × Int) => bits_Sub32.f k x.1 x.2.1 x.2.2⟩
theorem ok : FnO Try.prog 81 25 Try.f81 3 := okF _ (by kernel_rfl) (by kernel_rfl)
theorem c (k : Nat) : Contract Try.prog 81 (fs k) :=
  fnS [(.int .u32), (.int .u32), (.int .u32)] [(.int .u32), (.int .u32)] ptL fns0 fgs0 fws0 (fun k (x : Int × Int × Int) => bits_Sub32.f k x.1 x.2.1 x.2.2) ok trivial (fun k x => by kernel_rfl) (fun _ => ⟨trivial, trivial, trivial⟩) k
end bits_Sub32

namespace bits_Add32
def ptL : List (Pt (TD [(.int .u32), (.int .u32)])) := []
def fs (k : Nat) : FS := ⟨[(.int .u32), (.int .u32), (.int .u32)], [(.int .u32), (.int .u32)], fun (x : Int × Int × Int) => bits_Add32.f k x.1 x.2.1 x.2.2⟩
theorem ok : FnO Try.prog 80 22 Try.f80 3 := okF _ (by kernel_rfl) (by kernel_rfl)
theorem c (k : Nat) : Contract Try.prog 80 (fs k) :=
  fnS [(.int .u32), (.int .u32), (.int .u32)] [(.int .u32), (.int .u32)] ptL fns0 fgs0 fws0 (fun k (x : Int × Int × Int) => bits_Add32.f k x.1 x.2.1 x.2.2) ok trivial (fun k x => by kernel_rfl) (fun _ => ⟨trivial, trivial, trivial⟩) k
end bits_Add32

namespace nat_digit
def s0 : PSig := ⟨1, [(47, (.int .u32), false)], [(0, .win 0), (1, .val tL), (5, .val (.int .i64)), (7, .val (.int .u64)), (8, .val (.int .u64))]⟩
def s11 : PSig := ⟨1, [(47, (.int .u32), false)], [(0, .win 0), (1, .val tL), (5, .val (.int .i64)), (7, .val (.int .u64)), (8, .val (.int .u64))]⟩
def s4 : PSig := ⟨1, [(47, (.int .u32), false)], [(0, .win 0), (1, .val tL), (5, .val (.int .i64)), (7, .val (.int .u64)), (9, .val (.int .u32)), (10, .val (.int .u64)), (82, .val (.int .i64)), (83, .val (.int .i64))]⟩
def s8 : PSig := ⟨1, [(47, (.int .u32), false)], [(0, .win 0), (1, .val tL), (5, .val (.int .i64)), (7, .val (.int .u64)), (13, .val (.int .u32)), (130, .val (.int .i64)), (131, .val (.int .i64))]⟩
def ptL : List (Pt (TD ([.win 47 (.int .u32), .val tL].flatMap PK.outs ++ [(.int .u32)]))) := [⟨0, s0, fun k (x : LX × Nat × Nat × LX × Int × Int × Int) => nat_digit.p0 k x.1 x.2.1 x.2.2.1 x.2.2.2.1 x.2.2.2.2.1 x.2.2.2.2.2.1 x.2.2.2.2.2.2⟩, ⟨11, s11, fun k (x : LX × Nat × Nat × LX × Int × Int × Int) => nat_digit.p11 k x.1 x.2.1 x.2.2.1 x.2.2.2.1 x.2.2.2.2.1 x.2.2.2.2.2.1 x.2.2.2.2.2.2⟩, ⟨4, s4, fun k (x : LX × Nat × Nat × LX × Int × Int × Int × Int × Int × Int) => nat_digit.p4 k x.1 x.2.1 x.2.2.1 x.2.2.2.1 x.2.2.2.2.1 x.2.2.2.2.2.1 x.2.2.2.2.2.2.1 x.2.2.2.2.2.2.2.1 x.2.2.2.2.2.2.2.2.1 x.2.2.2.2.2.2.2.2.2⟩, ⟨8, s8, fun k (x : LX × Nat × Nat × LX × Int × Int × Int × Int × Int) => nat_digit.p8 k x.1 x.2.1 x.2.2.1 x.2.2.2.1 x.2.2.2.2.1 x.2.2.2.2.2.1 x.2.2.2.2.2.2.1 x.2.2.2.2.2.2.2.1 x.2.2.2.2.2.2.2.2⟩]
def fns : Nat → List (FuncId × FS) := fun k => [(81, bits_Sub32.fs k), (80, bits_Add32.fs k)]
def fg (k : Nat) : FG := ⟨[.win 47 (.int .u32), .val tL], [(.int .u32)], none, fun (x : LX × Nat × Nat × LX) => nat_digit.f k x.1 x.2.1 x.2.2.1 x.2.2.2⟩
theorem ok : FnO Try.prog 85 160 Try.f85 2 := okF _ (by kernel_rfl) (by kernel_rfl)
theorem c (k : Nat) : ContractG Try.prog 85 (fg k) :=
  fn_soundG (ps := [.win 47 (.int .u32), .val tL]) (rs := [(.int .u32)]) (pts := ptL) (fns := fns) (fgs := fgs0) (fws := fws0) (tys := tyTab) (main := fun k (x : LX × Nat × Nat × LX) => nat_digit.f k x.1 x.2.1 x.2.2.1 x.2.2.2) ok rfl mix tyOk ⟨⟨rfl, fun _ => rfl, fun k x => by kernel_rfl⟩, ⟨rfl, fun _ => rfl, fun k x => by kernel_rfl⟩, ⟨rfl, fun _ => rfl, fun k x => by kernel_rfl⟩, ⟨rfl, fun _ => rfl, fun k x => by kernel_rfl⟩, trivial⟩ (fun k x => by kernel_rfl) (fun k => ⟨⟨bits_Sub32.c k, bits_Add32.c k, trivial⟩, trivial, trivial⟩) k
end nat_digit

namespace nat_long
def s0 : PSig := ⟨0, [(47, (.int .u32), false), (47, (.int .u32), false)], [(6, .val (.int .i64)), (7, .val tL), (8, .own 0), (9, .val (.int .i64)), (10, .own 1), (11, .val (.int .i64))]⟩
def s4 : PSig := ⟨0, [(47, (.int .u32), false), (47, (.int .u32), false), (47, (.int .u32), false)], [(6, .val (.int .i64)), (8, .own 0), (10, .own 1), (12, .own 2), (60, .val (.int .i64)), (61, .val (.int .i64))]⟩
def fws : Nat → List (FuncId × FW) := fun k => [(84, ⟨[tL, (.int .i64)], 47, (.int .u32), false, fun (x : LX × Int) => nat_moved.f k x.1 x.2⟩), (74, ⟨[tL], 47, (.int .u32), false, fun (x : LX) => nat_own.f k x⟩)]
def ptL : List (Pt (TD [tL, tL])) := [⟨0, s0, fun k (x : LX × LX × Int × LX × Int × Int) => nat_long.p0 k x.1 x.2.1 x.2.2.1 x.2.2.2.1 x.2.2.2.2.1 x.2.2.2.2.2⟩, ⟨4, s4, fun k (x : LX × LX × LX × Int × Int × Int) => nat_long.p4 k x.1 x.2.1 x.2.2.1 x.2.2.2.1 x.2.2.2.2.1 x.2.2.2.2.2⟩]
def fns : Nat → List (FuncId × FS) := fun k => [(83, bits_LeadingZeros32.fs k)]
def fgs : Nat → List (FuncId × FG) := fun k => [(85, ⟨[.win 47 (.int .u32), .val tL], [(.int .u32)], none, fun (x : LX × Nat × Nat × LX) => nat_digit.f k x.1 x.2.1 x.2.2.1 x.2.2.2⟩)]
def fs (k : Nat) : FS := ⟨[tL, tL], [tL, tL], fun (x : LX × LX) => nat_long.f k x.1 x.2⟩
theorem ok : FnO Try.prog 78 89 Try.f78 2 := okF _ (by kernel_rfl) (by kernel_rfl)
theorem c (k : Nat) : Contract Try.prog 78 (fs k) :=
  fnS [tL, tL] [tL, tL] ptL fns fgs fws (fun k (x : LX × LX) => nat_long.f k x.1 x.2) ok ⟨⟨rfl, fun _ => rfl, fun k x => by kernel_rfl⟩, ⟨rfl, fun _ => rfl, fun k x => by kernel_rfl⟩, trivial⟩ (fun k x => by kernel_rfl) (fun k => ⟨⟨bits_LeadingZeros32.c k, trivial⟩, ⟨nat_digit.c k, trivial⟩, ⟨nat_moved.cw k, nat_own.cw k, trivial⟩⟩) k
end nat_long

namespace nat_Div
def ptL : List (Pt (TD [tL, tL, (.int .i64)])) := []
def fns : Nat → List (FuncId × FS) := fun k => [(64, nat_trim.fs k), (72, nat_Cmp.fs k), (74, nat_own.fs k), (77, nat_short.fs k), (78, nat_long.fs k)]
def fs (k : Nat) : FS := ⟨[tL, tL], [tL, tL, (.int .i64)], fun (x : LX × LX) => nat_Div.f k x.1 x.2⟩
theorem ok : FnO Try.prog 67 51 Try.f67 2 := okF _ (by kernel_rfl) (by kernel_rfl)
theorem c (k : Nat) : Contract Try.prog 67 (fs k) :=
  fnS [tL, tL] [tL, tL, (.int .i64)] ptL fns fgs0 fws0 (fun k (x : LX × LX) => nat_Div.f k x.1 x.2) ok trivial (fun k x => by kernel_rfl) (fun k => ⟨⟨nat_trim.c k, nat_Cmp.c k, nat_own.c k, nat_short.c k, nat_long.c k, trivial⟩, trivial, trivial⟩) k
end nat_Div

namespace nat_Gcd
def s0 : PSig := ⟨0, [], [(0, .val tL), (1, .val tL)]⟩
def ptL : List (Pt (TD [tL])) := [⟨0, s0, fun k (x : LX × LX) => nat_Gcd.p0 k x.1 x.2⟩]
def fns : Nat → List (FuncId × FS) := fun k => [(74, nat_own.fs k), (67, nat_Div.fs k)]
def fs (k : Nat) : FS := ⟨[tL, tL], [tL], fun (x : LX × LX) => nat_Gcd.f k x.1 x.2⟩
theorem ok : FnO Try.prog 66 25 Try.f66 2 := okF _ (by kernel_rfl) (by kernel_rfl)
theorem c (k : Nat) : Contract Try.prog 66 (fs k) :=
  fnS [tL, tL] [tL] ptL fns fgs0 fws0 (fun k (x : LX × LX) => nat_Gcd.f k x.1 x.2) ok ⟨⟨rfl, fun _ => rfl, fun k x => by kernel_rfl⟩, trivial⟩ (fun k x => by kernel_rfl) (fun k => ⟨⟨nat_own.c k, nat_Div.c k, trivial⟩, trivial, trivial⟩) k
end nat_Gcd

namespace whole_core
def s0 : PSig := ⟨0, [], [(0, .val tL), (3, .val (.int .i64))]⟩
def s9 : PSig := ⟨0, [], [(0, .val tL), (3, .val (.int .i64))]⟩
def ptL : List (Pt (TD [tL])) := [⟨0, s0, fun k (x : LX × Int) => whole_core.p0 k x.1 x.2⟩, ⟨9, s9, fun k (x : LX × Int) => whole_core.p9 k x.1 x.2⟩]
def fs (k : Nat) : FS := ⟨[tL], [tL], fun (x : LX) => whole_core.f k x⟩
theorem ok : FnO Try.prog 70 22 Try.f70 1 := okF _ (by kernel_rfl) (by kernel_rfl)
theorem c (k : Nat) : Contract Try.prog 70 (fs k) :=
  fnS [tL] [tL] ptL fns0 fgs0 fws0 (fun k (x : LX) => whole_core.f k x) ok ⟨⟨rfl, fun _ => rfl, fun k x => by kernel_rfl⟩, ⟨rfl, fun _ => rfl, fun k x => by kernel_rfl⟩, trivial⟩ (fun k x => by kernel_rfl) (fun _ => ⟨trivial, trivial, trivial⟩) k
end whole_core

namespace whole_Sign
def ptL : List (Pt (TD [(.int .i64)])) := []
def fns : Nat → List (FuncId × FS) := fun k => [(70, whole_core.fs k)]
def fs (k : Nat) : FS := ⟨[tZ], [(.int .i64)], fun (x : ZX) => whole_Sign.f k x⟩
theorem ok : FnO Try.prog 50 12 Try.f50 1 := okF _ (by kernel_rfl) (by kernel_rfl)
theorem c (k : Nat) : Contract Try.prog 50 (fs k) :=
  fnS [tZ] [(.int .i64)] ptL fns fgs0 fws0 (fun k (x : ZX) => whole_Sign.f k x) ok trivial (fun k x => by kernel_rfl) (fun k => ⟨⟨whole_core.c k, trivial⟩, trivial, trivial⟩) k
end whole_Sign

namespace nat_Norm
def ptL : List (Pt (TD [tL])) := []
def fns : Nat → List (FuncId × FS) := fun k => [(74, nat_own.fs k)]
def fs (k : Nat) : FS := ⟨[tL], [tL], fun (x : LX) => nat_Norm.f k x⟩
theorem ok : FnO Try.prog 75 5 Try.f75 1 := okF _ (by kernel_rfl) (by kernel_rfl)
theorem c (k : Nat) : Contract Try.prog 75 (fs k) :=
  fnS [tL] [tL] ptL fns fgs0 fws0 (fun k (x : LX) => nat_Norm.f k x) ok trivial (fun k x => by kernel_rfl) (fun k => ⟨⟨nat_own.c k, trivial⟩, trivial, trivial⟩) k
end nat_Norm

namespace whole_signed
def s0 : PSig := ⟨0, [(25, tZ, true)], [(0, .val tL), (4, .ptr 0 []), (5, .val (.int .i64)), (10, .val (.list (.int .i64))), (11, .val (.int .i64)), (12, .val (.int .i64))]⟩
def ptL : List (Pt (TD [tZ])) := [⟨0, s0, fun k (x : ZX × LX × Int × LX × Int × Int) => whole_signed.p0 k x.1 x.2.1 x.2.2.1 x.2.2.2.1 x.2.2.2.2.1 x.2.2.2.2.2⟩]
def fns : Nat → List (FuncId × FS) := fun k => [(75, nat_Norm.fs k)]
def fs (k : Nat) : FS := ⟨[tL, (.list (.int .i64))], [tZ], fun (x : LX × LX) => whole_signed.f k x.1 x.2⟩
theorem ok : FnO Try.prog 55 29 Try.f55 2 := okF _ (by kernel_rfl) (by kernel_rfl)
theorem c (k : Nat) : Contract Try.prog 55 (fs k) :=
  fnS [tL, (.list (.int .i64))] [tZ] ptL fns fgs0 fws0 (fun k (x : LX × LX) => whole_signed.f k x.1 x.2) ok ⟨⟨rfl, fun _ => rfl, fun k x => by kernel_rfl⟩, trivial⟩ (fun k x => by kernel_rfl) (fun k => ⟨⟨nat_Norm.c k, trivial⟩, trivial, trivial⟩) k
end whole_signed

namespace whole_Norm
def ptL : List (Pt (TD [tZ])) := []
def fns : Nat → List (FuncId × FS) := fun k => [(50, whole_Sign.fs k), (55, whole_signed.fs k)]
def fs (k : Nat) : FS := ⟨[tZ], [tZ], fun (x : ZX) => whole_Norm.f k x⟩
theorem ok : FnO Try.prog 34 9 Try.f34 1 := okF _ (by kernel_rfl) (by kernel_rfl)
theorem c (k : Nat) : Contract Try.prog 34 (fs k) :=
  fnS [tZ] [tZ] ptL fns fgs0 fws0 (fun k (x : ZX) => whole_Norm.f k x) ok trivial (fun k x => by kernel_rfl) (fun k => ⟨⟨whole_Sign.c k, whole_signed.c k, trivial⟩, trivial, trivial⟩) k
end whole_Norm

namespace ratio_made
def ptL : List (Pt (TD [tQ])) := []
def fns : Nat → List (FuncId × FS) := fun k => [(66, nat_Gcd.fs k), (67, nat_Div.fs k), (34, whole_Norm.fs k)]
def fs (k : Nat) : FS := ⟨[tZ, tL], [tQ], fun (x : ZX × LX) => ratio_made.f k x.1 x.2⟩
theorem ok : FnO Try.prog 47 38 Try.f47 2 := okF _ (by kernel_rfl) (by kernel_rfl)
theorem c (k : Nat) : Contract Try.prog 47 (fs k) :=
  fnS [tZ, tL] [tQ] ptL fns fgs0 fws0 (fun k (x : ZX × LX) => ratio_made.f k x.1 x.2) ok trivial (fun k x => by kernel_rfl) (fun k => ⟨⟨nat_Gcd.c k, nat_Div.c k, whole_Norm.c k, trivial⟩, trivial, trivial⟩) k
end ratio_made

namespace ratio_Norm
def ptL : List (Pt (TD [tQ])) := []
def fns : Nat → List (FuncId × FS) := fun k => [(46, nat_Bits.fs k), (47, ratio_made.fs k)]
def fs (k : Nat) : FS := ⟨[tQ], [tQ], fun (x : RX) => ratio_Norm.f k x⟩
theorem ok : FnO Try.prog 29 14 Try.f29 1 := okF _ (by kernel_rfl) (by kernel_rfl)
theorem c (k : Nat) : Contract Try.prog 29 (fs k) :=
  fnS [tQ] [tQ] ptL fns fgs0 fws0 (fun k (x : RX) => ratio_Norm.f k x) ok trivial (fun k x => by kernel_rfl) (fun k => ⟨⟨nat_Bits.c k, ratio_made.c k, trivial⟩, trivial, trivial⟩) k
end ratio_Norm

namespace whole_Quo
def ptL : List (Pt (TD [tZ, tZ, (.int .i64)])) := []
def fns : Nat → List (FuncId × FS) := fun k => [(67, nat_Div.fs k), (50, whole_Sign.fs k), (55, whole_signed.fs k)]
def fs (k : Nat) : FS := ⟨[tZ, tZ], [tZ, tZ, (.int .i64)], fun (x : ZX × ZX) => whole_Quo.f k x.1 x.2⟩
theorem ok : FnO Try.prog 48 36 Try.f48 2 := okF _ (by kernel_rfl) (by kernel_rfl)
theorem c (k : Nat) : Contract Try.prog 48 (fs k) :=
  fnS [tZ, tZ] [tZ, tZ, (.int .i64)] ptL fns fgs0 fws0 (fun k (x : ZX × ZX) => whole_Quo.f k x.1 x.2) ok trivial (fun k x => by kernel_rfl) (fun k => ⟨⟨nat_Div.c k, whole_Sign.c k, whole_signed.c k, trivial⟩, trivial, trivial⟩) k
end whole_Quo

namespace nat_Of
def ptL : List (Pt (TD [tL])) := []
def fns : Nat → List (FuncId × FS) := fun k => [(74, nat_own.fs k)]
def fs (k : Nat) : FS := ⟨[(.int .u64)], [tL], fun (x : Int) => nat_Of.f k x⟩
theorem ok : FnO Try.prog 79 10 Try.f79 1 := okF _ (by kernel_rfl) (by kernel_rfl)
theorem c (k : Nat) : Contract Try.prog 79 (fs k) :=
  fnS [(.int .u64)] [tL] ptL fns fgs0 fws0 (fun k (x : Int) => nat_Of.f k x) ok trivial (fun k x => by kernel_rfl) (fun k => ⟨⟨nat_own.c k, trivial⟩, trivial, trivial⟩) k
end nat_Of

namespace whole_Of
def ptL : List (Pt (TD [tZ])) := []
def fns : Nat → List (FuncId × FS) := fun k => [(79, nat_Of.fs k), (55, whole_signed.fs k)]
def fs (k : Nat) : FS := ⟨[(.int .i64)], [tZ], fun (x : Int) => whole_Of.f k x⟩
theorem ok : FnO Try.prog 68 15 Try.f68 1 := okF _ (by kernel_rfl) (by kernel_rfl)
theorem c (k : Nat) : Contract Try.prog 68 (fs k) :=
  fnS [(.int .i64)] [tZ] ptL fns fgs0 fws0 (fun k (x : Int) => whole_Of.f k x) ok trivial (fun k x => by kernel_rfl) (fun k => ⟨⟨nat_Of.c k, whole_signed.c k, trivial⟩, trivial, trivial⟩) k
end whole_Of

namespace nat_Add
def s7 : PSig := ⟨0, [], [(0, .val tL), (1, .val tL)]⟩
def s0 : PSig := ⟨0, [(47, (.int .u32), false)], [(0, .val tL), (1, .val tL), (5, .own 0), (6, .val (.int .u32)), (21, .val (.int .i64)), (22, .val (.int .i64))]⟩
def s23 : PSig := ⟨0, [(47, (.int .u32), false)], [(0, .val tL), (1, .val tL), (5, .own 0), (6, .val (.int .u32)), (7, .val (.int .i64)), (8, .val (.int .u32)), (21, .val (.int .i64)), (22, .val (.int .i64))]⟩
def ptL : List (Pt (TD [tL])) := [⟨7, s7, fun k (x : LX × LX) => nat_Add.p7 k x.1 x.2⟩, ⟨0, s0, fun k (x : LX × LX × LX × Int × Int × Int) => nat_Add.p0 k x.1 x.2.1 x.2.2.1 x.2.2.2.1 x.2.2.2.2.1 x.2.2.2.2.2⟩, ⟨23, s23, fun k (x : LX × LX × LX × Int × Int × Int × Int × Int) => nat_Add.p23 k x.1 x.2.1 x.2.2.1 x.2.2.2.1 x.2.2.2.2.1 x.2.2.2.2.2.1 x.2.2.2.2.2.2.1 x.2.2.2.2.2.2.2⟩]
def fns : Nat → List (FuncId × FS) := fun k => [(80, bits_Add32.fs k), (74, nat_own.fs k)]
def fs (k : Nat) : FS := ⟨[tL, tL], [tL], fun (x : LX × LX) => nat_Add.f k x.1 x.2⟩
theorem ok : FnO Try.prog 71 54 Try.f71 2 := okF _ (by kernel_rfl) (by kernel_rfl)
theorem c (k : Nat) : Contract Try.prog 71 (fs k) :=
  fnS [tL, tL] [tL] ptL fns fgs0 fws0 (fun k (x : LX × LX) => nat_Add.f k x.1 x.2) ok ⟨⟨rfl, fun _ => rfl, fun k x => by kernel_rfl⟩, ⟨rfl, fun _ => rfl, fun k x => by kernel_rfl⟩, ⟨rfl, fun _ => rfl, fun k x => by kernel_rfl⟩, trivial⟩ (fun k x => by kernel_rfl) (fun k => ⟨⟨bits_Add32.c k, nat_own.c k, trivial⟩, trivial, trivial⟩) k
end nat_Add

namespace nat_Sub
def s0 : PSig := ⟨0, [(47, (.int .u32), false)], [(0, .val tL), (1, .val tL), (6, .own 0), (7, .val (.int .u32)), (20, .val (.int .i64)), (21, .val (.int .i64))]⟩
def s25 : PSig := ⟨0, [(47, (.int .u32), false)], [(0, .val tL), (1, .val tL), (6, .own 0), (7, .val (.int .u32)), (8, .val (.int .i64)), (9, .val (.int .u32)), (20, .val (.int .i64)), (21, .val (.int .i64))]⟩
def ptL : List (Pt (TD [tL, (.int .i64)])) := [⟨0, s0, fun k (x : LX × LX × LX × Int × Int × Int) => nat_Sub.p0 k x.1 x.2.1 x.2.2.1 x.2.2.2.1 x.2.2.2.2.1 x.2.2.2.2.2⟩, ⟨25, s25, fun k (x : LX × LX × LX × Int × Int × Int × Int × Int) => nat_Sub.p25 k x.1 x.2.1 x.2.2.1 x.2.2.2.1 x.2.2.2.2.1 x.2.2.2.2.2.1 x.2.2.2.2.2.2.1 x.2.2.2.2.2.2.2⟩]
def fns : Nat → List (FuncId × FS) := fun k => [(72, nat_Cmp.fs k), (64, nat_trim.fs k), (81, bits_Sub32.fs k), (74, nat_own.fs k)]
def fs (k : Nat) : FS := ⟨[tL, tL], [tL, (.int .i64)], fun (x : LX × LX) => nat_Sub.f k x.1 x.2⟩
theorem ok : FnO Try.prog 73 48 Try.f73 2 := okF _ (by kernel_rfl) (by kernel_rfl)
theorem c (k : Nat) : Contract Try.prog 73 (fs k) :=
  fnS [tL, tL] [tL, (.int .i64)] ptL fns fgs0 fws0 (fun k (x : LX × LX) => nat_Sub.f k x.1 x.2) ok ⟨⟨rfl, fun _ => rfl, fun k x => by kernel_rfl⟩, ⟨rfl, fun _ => rfl, fun k x => by kernel_rfl⟩, trivial⟩ (fun k x => by kernel_rfl) (fun k => ⟨⟨nat_Cmp.c k, nat_trim.c k, bits_Sub32.c k, nat_own.c k, trivial⟩, trivial, trivial⟩) k
end nat_Sub

namespace whole_Add
def ptL : List (Pt (TD [tZ])) := []
def fns : Nat → List (FuncId × FS) := fun k => [(50, whole_Sign.fs k), (71, nat_Add.fs k), (55, whole_signed.fs k), (72, nat_Cmp.fs k), (73, nat_Sub.fs k)]
def fs (k : Nat) : FS := ⟨[tZ, tZ], [tZ], fun (x : ZX × ZX) => whole_Add.f k x.1 x.2⟩
theorem ok : FnO Try.prog 52 60 Try.f52 2 := okF _ (by kernel_rfl) (by kernel_rfl)
theorem c (k : Nat) : Contract Try.prog 52 (fs k) :=
  fnS [tZ, tZ] [tZ] ptL fns fgs0 fws0 (fun k (x : ZX × ZX) => whole_Add.f k x.1 x.2) ok trivial (fun k x => by kernel_rfl) (fun k => ⟨⟨whole_Sign.c k, nat_Add.c k, whole_signed.c k, nat_Cmp.c k, nat_Sub.c k, trivial⟩, trivial, trivial⟩) k
end whole_Add

namespace whole_Neg
def ptL : List (Pt (TD [tZ])) := []
def fns : Nat → List (FuncId × FS) := fun k => [(50, whole_Sign.fs k), (55, whole_signed.fs k)]
def fs (k : Nat) : FS := ⟨[tZ], [tZ], fun (x : ZX) => whole_Neg.f k x⟩
theorem ok : FnO Try.prog 51 9 Try.f51 1 := okF _ (by kernel_rfl) (by kernel_rfl)
theorem c (k : Nat) : Contract Try.prog 51 (fs k) :=
  fnS [tZ] [tZ] ptL fns fgs0 fws0 (fun k (x : ZX) => whole_Neg.f k x) ok trivial (fun k x => by kernel_rfl) (fun k => ⟨⟨whole_Sign.c k, whole_signed.c k, trivial⟩, trivial, trivial⟩) k
end whole_Neg

namespace whole_Sub
def ptL : List (Pt (TD [tZ])) := []
def fns : Nat → List (FuncId × FS) := fun k => [(51, whole_Neg.fs k), (52, whole_Add.fs k)]
def fs (k : Nat) : FS := ⟨[tZ, tZ], [tZ], fun (x : ZX × ZX) => whole_Sub.f k x.1 x.2⟩
theorem ok : FnO Try.prog 69 9 Try.f69 2 := okF _ (by kernel_rfl) (by kernel_rfl)
theorem c (k : Nat) : Contract Try.prog 69 (fs k) :=
  fnS [tZ, tZ] [tZ] ptL fns fgs0 fws0 (fun k (x : ZX × ZX) => whole_Sub.f k x.1 x.2) ok trivial (fun k x => by kernel_rfl) (fun k => ⟨⟨whole_Neg.c k, whole_Add.c k, trivial⟩, trivial, trivial⟩) k
end whole_Sub

namespace whole_moved
def ptL : List (Pt (TD [tZ, tZ, (.int .i64)])) := []
def fns : Nat → List (FuncId × FS) := fun k => [(50, whole_Sign.fs k), (68, whole_Of.fs k), (52, whole_Add.fs k), (69, whole_Sub.fs k)]
def fs (k : Nat) : FS := ⟨[tZ, tZ, tZ, .bool], [tZ, tZ, (.int .i64)], fun (x : ZX × ZX × ZX × Bool) => whole_moved.f k x.1 x.2.1 x.2.2.1 x.2.2.2⟩
theorem ok : FnO Try.prog 49 32 Try.f49 4 := okF _ (by kernel_rfl) (by kernel_rfl)
theorem c (k : Nat) : Contract Try.prog 49 (fs k) :=
  fnS [tZ, tZ, tZ, .bool] [tZ, tZ, (.int .i64)] ptL fns fgs0 fws0 (fun k (x : ZX × ZX × ZX × Bool) => whole_moved.f k x.1 x.2.1 x.2.2.1 x.2.2.2) ok trivial (fun k x => by kernel_rfl) (fun k => ⟨⟨whole_Sign.c k, whole_Of.c k, whole_Add.c k, whole_Sub.c k, trivial⟩, trivial, trivial⟩) k
end whole_moved

namespace whole_Floor
def ptL : List (Pt (TD [tZ, tZ, (.int .i64)])) := []
def fns : Nat → List (FuncId × FS) := fun k => [(48, whole_Quo.fs k), (50, whole_Sign.fs k), (49, whole_moved.fs k)]
def fs (k : Nat) : FS := ⟨[tZ, tZ], [tZ, tZ, (.int .i64)], fun (x : ZX × ZX) => whole_Floor.f k x.1 x.2⟩
theorem ok : FnO Try.prog 30 35 Try.f30 2 := okF _ (by kernel_rfl) (by kernel_rfl)
theorem c (k : Nat) : Contract Try.prog 30 (fs k) :=
  fnS [tZ, tZ] [tZ, tZ, (.int .i64)] ptL fns fgs0 fws0 (fun k (x : ZX × ZX) => whole_Floor.f k x.1 x.2) ok trivial (fun k x => by kernel_rfl) (fun k => ⟨⟨whole_Quo.c k, whole_Sign.c k, whole_moved.c k, trivial⟩, trivial, trivial⟩) k
end whole_Floor

namespace ratio_Floor
def ptL : List (Pt (TD [tZ])) := []
def fns : Nat → List (FuncId × FS) := fun k => [(29, ratio_Norm.fs k), (30, whole_Floor.fs k)]
def fs (k : Nat) : FS := ⟨[tQ], [tZ], fun (x : RX) => ratio_Floor.f k x⟩
theorem ok : FnO Try.prog 18 19 Try.f18 1 := okF _ (by kernel_rfl) (by kernel_rfl)
theorem c (k : Nat) : Contract Try.prog 18 (fs k) :=
  fnS [tQ] [tZ] ptL fns fgs0 fws0 (fun k (x : RX) => ratio_Floor.f k x) ok trivial (fun k x => by kernel_rfl) (fun k => ⟨⟨ratio_Norm.c k, whole_Floor.c k, trivial⟩, trivial, trivial⟩) k
end ratio_Floor

namespace ratio_of
def ptL : List (Pt (TD [tQ])) := []
def fns : Nat → List (FuncId × FS) := fun k => [(34, whole_Norm.fs k)]
def fs (k : Nat) : FS := ⟨[tZ], [tQ], fun (x : ZX) => ratio_of.f k x⟩
theorem ok : FnO Try.prog 21 7 Try.f21 1 := okF _ (by kernel_rfl) (by kernel_rfl)
theorem c (k : Nat) : Contract Try.prog 21 (fs k) :=
  fnS [tZ] [tQ] ptL fns fgs0 fws0 (fun k (x : ZX) => ratio_of.f k x) ok trivial (fun k x => by kernel_rfl) (fun k => ⟨⟨whole_Norm.c k, trivial⟩, trivial, trivial⟩) k
end ratio_of

namespace ratio_Neg
def ptL : List (Pt (TD [tQ])) := []
def fns : Nat → List (FuncId × FS) := fun k => [(29, ratio_Norm.fs k), (51, whole_Neg.fs k)]
def fs (k : Nat) : FS := ⟨[tQ], [tQ], fun (x : RX) => ratio_Neg.f k x⟩
theorem ok : FnO Try.prog 33 11 Try.f33 1 := okF _ (by kernel_rfl) (by kernel_rfl)
theorem c (k : Nat) : Contract Try.prog 33 (fs k) :=
  fnS [tQ] [tQ] ptL fns fgs0 fws0 (fun k (x : RX) => ratio_Neg.f k x) ok trivial (fun k x => by kernel_rfl) (fun k => ⟨⟨ratio_Norm.c k, whole_Neg.c k, trivial⟩, trivial, trivial⟩) k
end ratio_Neg

namespace nat_Mul
def s0 : PSig := ⟨0, [(47, (.int .u32), false)], [(0, .val tL), (1, .val tL), (5, .own 0), (21, .val (.int .i64)), (22, .val (.int .i64))]⟩
def s4 : PSig := ⟨0, [(47, (.int .u32), false)], [(0, .val tL), (1, .val tL), (5, .own 0), (6, .val (.int .i64)), (7, .val (.int .u64)), (21, .val (.int .i64)), (22, .val (.int .i64)), (26, .val (.int .i64)), (27, .val (.int .i64))]⟩
def ptL : List (Pt (TD [tL])) := [⟨0, s0, fun k (x : LX × LX × LX × Int × Int) => nat_Mul.p0 k x.1 x.2.1 x.2.2.1 x.2.2.2.1 x.2.2.2.2⟩, ⟨4, s4, fun k (x : LX × LX × LX × Int × Int × Int × Int × Int × Int) => nat_Mul.p4 k x.1 x.2.1 x.2.2.1 x.2.2.2.1 x.2.2.2.2.1 x.2.2.2.2.2.1 x.2.2.2.2.2.2.1 x.2.2.2.2.2.2.2.1 x.2.2.2.2.2.2.2.2⟩]
def fns : Nat → List (FuncId × FS) := fun k => [(64, nat_trim.fs k), (74, nat_own.fs k)]
def fs (k : Nat) : FS := ⟨[tL, tL], [tL], fun (x : LX × LX) => nat_Mul.f k x.1 x.2⟩
theorem ok : FnO Try.prog 54 72 Try.f54 2 := okF _ (by kernel_rfl) (by kernel_rfl)
theorem c (k : Nat) : Contract Try.prog 54 (fs k) :=
  fnS [tL, tL] [tL] ptL fns fgs0 fws0 (fun k (x : LX × LX) => nat_Mul.f k x.1 x.2) ok ⟨⟨rfl, fun _ => rfl, fun k x => by kernel_rfl⟩, ⟨rfl, fun _ => rfl, fun k x => by kernel_rfl⟩, trivial⟩ (fun k x => by kernel_rfl) (fun k => ⟨⟨nat_trim.c k, nat_own.c k, trivial⟩, trivial, trivial⟩) k
end nat_Mul

namespace whole_Mul
def ptL : List (Pt (TD [tZ])) := []
def fns : Nat → List (FuncId × FS) := fun k => [(54, nat_Mul.fs k), (50, whole_Sign.fs k), (55, whole_signed.fs k)]
def fs (k : Nat) : FS := ⟨[tZ, tZ], [tZ], fun (x : ZX × ZX) => whole_Mul.f k x.1 x.2⟩
theorem ok : FnO Try.prog 53 16 Try.f53 2 := okF _ (by kernel_rfl) (by kernel_rfl)
theorem c (k : Nat) : Contract Try.prog 53 (fs k) :=
  fnS [tZ, tZ] [tZ] ptL fns fgs0 fws0 (fun k (x : ZX × ZX) => whole_Mul.f k x.1 x.2) ok trivial (fun k x => by kernel_rfl) (fun k => ⟨⟨nat_Mul.c k, whole_Sign.c k, whole_signed.c k, trivial⟩, trivial, trivial⟩) k
end whole_Mul

namespace ratio_Add
def ptL : List (Pt (TD [tQ])) := []
def fns : Nat → List (FuncId × FS) := fun k => [(29, ratio_Norm.fs k), (53, whole_Mul.fs k), (52, whole_Add.fs k), (54, nat_Mul.fs k), (47, ratio_made.fs k)]
def fs (k : Nat) : FS := ⟨[tQ, tQ], [tQ], fun (x : RX × RX) => ratio_Add.f k x.1 x.2⟩
theorem ok : FnO Try.prog 32 30 Try.f32 2 := okF _ (by kernel_rfl) (by kernel_rfl)
theorem c (k : Nat) : Contract Try.prog 32 (fs k) :=
  fnS [tQ, tQ] [tQ] ptL fns fgs0 fws0 (fun k (x : RX × RX) => ratio_Add.f k x.1 x.2) ok trivial (fun k x => by kernel_rfl) (fun k => ⟨⟨ratio_Norm.c k, whole_Mul.c k, whole_Add.c k, nat_Mul.c k, ratio_made.c k, trivial⟩, trivial, trivial⟩) k
end ratio_Add

namespace ratio_Sub
def ptL : List (Pt (TD [tQ])) := []
def fns : Nat → List (FuncId × FS) := fun k => [(33, ratio_Neg.fs k), (32, ratio_Add.fs k)]
def fs (k : Nat) : FS := ⟨[tQ, tQ], [tQ], fun (x : RX × RX) => ratio_Sub.f k x.1 x.2⟩
theorem ok : FnO Try.prog 20 9 Try.f20 2 := okF _ (by kernel_rfl) (by kernel_rfl)
theorem c (k : Nat) : Contract Try.prog 20 (fs k) :=
  fnS [tQ, tQ] [tQ] ptL fns fgs0 fws0 (fun k (x : RX × RX) => ratio_Sub.f k x.1 x.2) ok trivial (fun k x => by kernel_rfl) (fun k => ⟨⟨ratio_Neg.c k, ratio_Add.c k, trivial⟩, trivial, trivial⟩) k
end ratio_Sub

namespace ratio_Of
def s11 : PSig := ⟨0, [(25, tZ, true), (25, tZ, true), (27, tQ, true)], [(2, .ptr 0 []), (3, .ptr 1 []), (4, .ptr 2 [])]⟩
def ptL : List (Pt (TD [tQ, (.int .i64)])) := [⟨11, s11, fun k (x : ZX × ZX × RX) => ratio_Of.p11 k x.1 x.2.1 x.2.2⟩]
def fns : Nat → List (FuncId × FS) := fun k => [(50, whole_Sign.fs k), (51, whole_Neg.fs k), (47, ratio_made.fs k)]
def fs (k : Nat) : FS := ⟨[tZ, tZ], [tQ, (.int .i64)], fun (x : ZX × ZX) => ratio_Of.f k x.1 x.2⟩
theorem ok : FnO Try.prog 31 19 Try.f31 2 := okF _ (by kernel_rfl) (by kernel_rfl)
theorem c (k : Nat) : Contract Try.prog 31 (fs k) :=
  fnS [tZ, tZ] [tQ, (.int .i64)] ptL fns fgs0 fws0 (fun k (x : ZX × ZX) => ratio_Of.f k x.1 x.2) ok ⟨⟨rfl, fun _ => rfl, fun k x => by kernel_rfl⟩, trivial⟩ (fun k x => by kernel_rfl) (fun k => ⟨⟨whole_Sign.c k, whole_Neg.c k, ratio_made.c k, trivial⟩, trivial, trivial⟩) k
end ratio_Of

namespace ratio_Inv
def ptL : List (Pt (TD [tQ, (.int .i64)])) := []
def fns : Nat → List (FuncId × FS) := fun k => [(29, ratio_Norm.fs k), (31, ratio_Of.fs k)]
def fs (k : Nat) : FS := ⟨[tQ], [tQ, (.int .i64)], fun (x : RX) => ratio_Inv.f k x⟩
theorem ok : FnO Try.prog 19 14 Try.f19 1 := okF _ (by kernel_rfl) (by kernel_rfl)
theorem c (k : Nat) : Contract Try.prog 19 (fs k) :=
  fnS [tQ] [tQ, (.int .i64)] ptL fns fgs0 fws0 (fun k (x : RX) => ratio_Inv.f k x) ok trivial (fun k x => by kernel_rfl) (fun k => ⟨⟨ratio_Norm.c k, ratio_Of.c k, trivial⟩, trivial, trivial⟩) k
end ratio_Inv

namespace ratio_Expand
theorem c (k : Nat) : Contract Try.prog 4 ⟨[ptQ], [.list ptZ], fun (x : ZX × LX) => ratio_Expand.f k x⟩ := expand_contract (fl := ratio_Floor.f) (fo := ratio_of.f) (fs := fun k x => ratio_Sub.f k x.1 x.2) (fi := ratio_Inv.f) ⟨ratio_Floor.c, ratio_of.c, ratio_Sub.c, ratio_Inv.c⟩ k
end ratio_Expand

namespace ref01_Norm
def s0 : PSig := ⟨0, [], [(0, .val tL), (3, .val (.int .i64))]⟩
def s9 : PSig := ⟨0, [], [(0, .val tL), (3, .val (.int .i64))]⟩
def s4 : PSig := ⟨0, [(47, (.int .u32), false)], [(0, .val tL), (3, .val (.int .i64)), (4, .own 0), (5, .val (.int .i64))]⟩
def ptL : List (Pt (TD [tL])) := [⟨0, s0, fun k (x : LX × Int) => ref01_Norm.p0 k x.1 x.2⟩, ⟨9, s9, fun k (x : LX × Int) => ref01_Norm.p9 k x.1 x.2⟩, ⟨4, s4, fun k (x : LX × LX × Int × Int) => ref01_Norm.p4 k x.1 x.2.1 x.2.2.1 x.2.2.2⟩]
def fs (k : Nat) : FS := ⟨[tL], [tL], fun (x : LX) => ref01_Norm.f k x⟩
theorem ok : FnO Try.prog 36 35 Try.f36 1 := okF _ (by kernel_rfl) (by kernel_rfl)
theorem c (k : Nat) : Contract Try.prog 36 (fs k) :=
  fnS [tL] [tL] ptL fns0 fgs0 fws0 (fun k (x : LX) => ref01_Norm.f k x) ok ⟨⟨rfl, fun _ => rfl, fun k x => by kernel_rfl⟩, ⟨rfl, fun _ => rfl, fun k x => by kernel_rfl⟩, ⟨rfl, fun _ => rfl, fun k x => by kernel_rfl⟩, trivial⟩ (fun k x => by kernel_rfl) (fun _ => ⟨trivial, trivial, trivial⟩) k
end ref01_Norm

namespace ref02_made
def ptL : List (Pt (TD [tZ])) := []
def fns : Nat → List (FuncId × FS) := fun k => [(36, ref01_Norm.fs k)]
def fs (k : Nat) : FS := ⟨[.bool, tL], [tZ], fun (x : Bool × LX) => ref02_made.f k x.1 x.2⟩
theorem ok : FnO Try.prog 56 16 Try.f56 2 := okF _ (by kernel_rfl) (by kernel_rfl)
theorem c (k : Nat) : Contract Try.prog 56 (fs k) :=
  fnS [.bool, tL] [tZ] ptL fns fgs0 fws0 (fun k (x : Bool × LX) => ref02_made.f k x.1 x.2) ok trivial (fun k x => by kernel_rfl) (fun k => ⟨⟨ref01_Norm.c k, trivial⟩, trivial, trivial⟩) k
end ref02_made

namespace ref02_Norm
def ptL : List (Pt (TD [tZ])) := []
def fns : Nat → List (FuncId × FS) := fun k => [(56, ref02_made.fs k)]
def fs (k : Nat) : FS := ⟨[tZ], [tZ], fun (x : ZX) => ref02_Norm.f k x⟩
theorem ok : FnO Try.prog 35 8 Try.f35 1 := okF _ (by kernel_rfl) (by kernel_rfl)
theorem c (k : Nat) : Contract Try.prog 35 (fs k) :=
  fnS [tZ] [tZ] ptL fns fgs0 fws0 (fun k (x : ZX) => ref02_Norm.f k x) ok trivial (fun k x => by kernel_rfl) (fun k => ⟨⟨ref02_made.c k, trivial⟩, trivial, trivial⟩) k
end ref02_Norm

namespace ref01_at
def ptL : List (Pt (TD [(.int .u64)])) := []
def fs (k : Nat) : FS := ⟨[tL, (.int .i64)], [(.int .u64)], fun (x : LX × Int) => ref01_at.f k x.1 x.2⟩
theorem ok : FnO Try.prog 76 14 Try.f76 2 := okF _ (by kernel_rfl) (by kernel_rfl)
theorem c (k : Nat) : Contract Try.prog 76 (fs k) :=
  fnS [tL, (.int .i64)] [(.int .u64)] ptL fns0 fgs0 fws0 (fun k (x : LX × Int) => ref01_at.f k x.1 x.2) ok trivial (fun k x => by kernel_rfl) (fun _ => ⟨trivial, trivial, trivial⟩) k
end ref01_at

namespace ref01_Cmp
def s9 : PSig := ⟨0, [], [(0, .val tL), (1, .val tL), (5, .val (.int .i64))]⟩
def s0 : PSig := ⟨0, [], [(0, .val tL), (1, .val tL), (6, .val (.int .i64))]⟩
def ptL : List (Pt (TD [(.int .i64)])) := [⟨9, s9, fun k (x : LX × LX × Int) => ref01_Cmp.p9 k x.1 x.2.1 x.2.2⟩, ⟨0, s0, fun k (x : LX × LX × Int) => ref01_Cmp.p0 k x.1 x.2.1 x.2.2⟩]
def fns : Nat → List (FuncId × FS) := fun k => [(76, ref01_at.fs k)]
def fs (k : Nat) : FS := ⟨[tL, tL], [(.int .i64)], fun (x : LX × LX) => ref01_Cmp.f k x.1 x.2⟩
theorem ok : FnO Try.prog 57 35 Try.f57 2 := okF _ (by kernel_rfl) (by kernel_rfl)
theorem c (k : Nat) : Contract Try.prog 57 (fs k) :=
  fnS [tL, tL] [(.int .i64)] ptL fns fgs0 fws0 (fun k (x : LX × LX) => ref01_Cmp.f k x.1 x.2) ok ⟨⟨rfl, fun _ => rfl, fun k x => by kernel_rfl⟩, ⟨rfl, fun _ => rfl, fun k x => by kernel_rfl⟩, trivial⟩ (fun k x => by kernel_rfl) (fun k => ⟨⟨ref01_at.c k, trivial⟩, trivial, trivial⟩) k
end ref01_Cmp

namespace ref01_Bit
def ptL : List (Pt (TD [.bool])) := []
def fs (k : Nat) : FS := ⟨[tL, (.int .i64)], [.bool], fun (x : LX × Int) => ref01_Bit.f k x.1 x.2⟩
theorem ok : FnO Try.prog 58 27 Try.f58 2 := okF _ (by kernel_rfl) (by kernel_rfl)
theorem c (k : Nat) : Contract Try.prog 58 (fs k) :=
  fnS [tL, (.int .i64)] [.bool] ptL fns0 fgs0 fws0 (fun k (x : LX × Int) => ref01_Bit.f k x.1 x.2) ok trivial (fun k x => by kernel_rfl) (fun _ => ⟨trivial, trivial, trivial⟩) k
end ref01_Bit

namespace ref01_Shift
def s5 : PSig := ⟨0, [], []⟩
def s17 : PSig := ⟨0, [], [(0, .val tL), (1, .val (.int .i64)), (6, .val (.int .i64))]⟩
def s29 : PSig := ⟨0, [(47, (.int .u32), false)], [(0, .val tL), (6, .val (.int .i64)), (7, .own 0), (8, .val (.int .i64)), (9, .val (.int .i64))]⟩
def s0 : PSig := ⟨0, [(47, (.int .u32), false)], [(0, .val tL), (6, .val (.int .i64)), (7, .own 0), (8, .val (.int .i64)), (9, .val (.int .i64)), (10, .val (.int .i64))]⟩
def s41 : PSig := ⟨0, [(47, (.int .u32), false)], [(0, .val tL), (6, .val (.int .i64)), (7, .own 0), (8, .val (.int .i64)), (9, .val (.int .i64)), (10, .val (.int .i64)), (11, .val (.int .u64))]⟩
def s33 : PSig := ⟨0, [(47, (.int .u32), false)], [(0, .val tL), (6, .val (.int .i64)), (7, .own 0), (8, .val (.int .i64)), (9, .val (.int .i64)), (10, .val (.int .i64))]⟩
def ptL : List (Pt (TD [tL, (.int .i64)])) := [⟨5, s5, fun k (x : Unit) => ref01_Shift.p5 k x⟩, ⟨17, s17, fun k (x : LX × Int × Int) => ref01_Shift.p17 k x.1 x.2.1 x.2.2⟩, ⟨29, s29, fun k (x : LX × LX × Int × Int × Int) => ref01_Shift.p29 k x.1 x.2.1 x.2.2.1 x.2.2.2.1 x.2.2.2.2⟩, ⟨0, s0, fun k (x : LX × LX × Int × Int × Int × Int) => ref01_Shift.p0 k x.1 x.2.1 x.2.2.1 x.2.2.2.1 x.2.2.2.2.1 x.2.2.2.2.2⟩, ⟨41, s41, fun k (x : LX × LX × Int × Int × Int × Int × Int) => ref01_Shift.p41 k x.1 x.2.1 x.2.2.1 x.2.2.2.1 x.2.2.2.2.1 x.2.2.2.2.2.1 x.2.2.2.2.2.2⟩, ⟨33, s33, fun k (x : LX × LX × Int × Int × Int × Int) => ref01_Shift.p33 k x.1 x.2.1 x.2.2.1 x.2.2.2.1 x.2.2.2.2.1 x.2.2.2.2.2⟩]
def fns : Nat → List (FuncId × FS) := fun k => [(36, ref01_Norm.fs k)]
def fs (k : Nat) : FS := ⟨[tL, (.int .i64)], [tL, (.int .i64)], fun (x : LX × Int) => ref01_Shift.f k x.1 x.2⟩
theorem ok : FnO Try.prog 59 106 Try.f59 2 := okF _ (by kernel_rfl) (by kernel_rfl)
theorem c (k : Nat) : Contract Try.prog 59 (fs k) :=
  fnS [tL, (.int .i64)] [tL, (.int .i64)] ptL fns fgs0 fws0 (fun k (x : LX × Int) => ref01_Shift.f k x.1 x.2) ok ⟨⟨rfl, fun _ => rfl, fun k x => by kernel_rfl⟩, ⟨rfl, fun _ => rfl, fun k x => by kernel_rfl⟩, ⟨rfl, fun _ => rfl, fun k x => by kernel_rfl⟩, ⟨rfl, fun _ => rfl, fun k x => by kernel_rfl⟩, ⟨rfl, fun _ => rfl, fun k x => by kernel_rfl⟩, ⟨rfl, fun _ => rfl, fun k x => by kernel_rfl⟩, trivial⟩ (fun k x => by kernel_rfl) (fun k => ⟨⟨ref01_Norm.c k, trivial⟩, trivial, trivial⟩) k
end ref01_Shift

namespace ref01_Sub
def s0 : PSig := ⟨0, [(47, (.int .u32), false)], [(0, .val tL), (1, .val tL), (6, .own 0), (7, .val (.int .u64)), (8, .val (.int .i64))]⟩
def ptL : List (Pt (TD [tL, (.int .i64)])) := [⟨0, s0, fun k (x : LX × LX × LX × Int × Int) => ref01_Sub.p0 k x.1 x.2.1 x.2.2.1 x.2.2.2.1 x.2.2.2.2⟩]
def fns : Nat → List (FuncId × FS) := fun k => [(57, ref01_Cmp.fs k), (76, ref01_at.fs k), (36, ref01_Norm.fs k)]
def fs (k : Nat) : FS := ⟨[tL, tL], [tL, (.int .i64)], fun (x : LX × LX) => ref01_Sub.f k x.1 x.2⟩
theorem ok : FnO Try.prog 60 41 Try.f60 2 := okF _ (by kernel_rfl) (by kernel_rfl)
theorem c (k : Nat) : Contract Try.prog 60 (fs k) :=
  fnS [tL, tL] [tL, (.int .i64)] ptL fns fgs0 fws0 (fun k (x : LX × LX) => ref01_Sub.f k x.1 x.2) ok ⟨⟨rfl, fun _ => rfl, fun k x => by kernel_rfl⟩, trivial⟩ (fun k x => by kernel_rfl) (fun k => ⟨⟨ref01_Cmp.c k, ref01_at.c k, ref01_Norm.c k, trivial⟩, trivial, trivial⟩) k
end ref01_Sub

namespace ref01_twice
def s11 : PSig := ⟨0, [(47, (.int .u32), false)], [(0, .val tL), (5, .own 0), (6, .val (.int .u32))]⟩
def s0 : PSig := ⟨0, [(47, (.int .u32), false)], [(0, .val tL), (5, .own 0), (6, .val (.int .u32)), (7, .val (.int .i64))]⟩
def ptL : List (Pt (TD [tL])) := [⟨11, s11, fun k (x : LX × LX × Int) => ref01_twice.p11 k x.1 x.2.1 x.2.2⟩, ⟨0, s0, fun k (x : LX × LX × Int × Int) => ref01_twice.p0 k x.1 x.2.1 x.2.2.1 x.2.2.2⟩]
def fns : Nat → List (FuncId × FS) := fun k => [(36, ref01_Norm.fs k)]
def fs (k : Nat) : FS := ⟨[tL, .bool], [tL], fun (x : LX × Bool) => ref01_twice.f k x.1 x.2⟩
theorem ok : FnO Try.prog 61 41 Try.f61 2 := okF _ (by kernel_rfl) (by kernel_rfl)
theorem c (k : Nat) : Contract Try.prog 61 (fs k) :=
  fnS [tL, .bool] [tL] ptL fns fgs0 fws0 (fun k (x : LX × Bool) => ref01_twice.f k x.1 x.2) ok ⟨⟨rfl, fun _ => rfl, fun k x => by kernel_rfl⟩, ⟨rfl, fun _ => rfl, fun k x => by kernel_rfl⟩, trivial⟩ (fun k x => by kernel_rfl) (fun k => ⟨⟨ref01_Norm.c k, trivial⟩, trivial, trivial⟩) k
end ref01_twice

namespace ref01_Gcd
def s19 : PSig := ⟨0, [], [(5, .val tL)]⟩
def s0 : PSig := ⟨0, [], [(0, .val tL), (1, .val tL), (6, .val (.int .i64))]⟩
def s4 : PSig := ⟨0, [], [(0, .val tL), (1, .val tL), (6, .val (.int .i64))]⟩
def s8 : PSig := ⟨0, [], [(0, .val tL), (1, .val tL), (6, .val (.int .i64))]⟩
def s16 : PSig := ⟨0, [], [(0, .val tL), (6, .val (.int .i64)), (7, .val (.int .i64))]⟩
def s12 : PSig := ⟨0, [], [(0, .val tL), (1, .val tL), (6, .val (.int .i64))]⟩
def s45 : PSig := ⟨0, [], [(0, .val tL), (1, .val tL), (6, .val (.int .i64))]⟩
def ptL : List (Pt (TD [tL])) := [⟨19, s19, fun k (x : LX) => ref01_Gcd.p19 k x⟩, ⟨0, s0, fun k (x : LX × LX × Int) => ref01_Gcd.p0 k x.1 x.2.1 x.2.2⟩, ⟨4, s4, fun k (x : LX × LX × Int) => ref01_Gcd.p4 k x.1 x.2.1 x.2.2⟩, ⟨8, s8, fun k (x : LX × LX × Int) => ref01_Gcd.p8 k x.1 x.2.1 x.2.2⟩, ⟨16, s16, fun k (x : LX × Int × Int) => ref01_Gcd.p16 k x.1 x.2.1 x.2.2⟩, ⟨12, s12, fun k (x : LX × LX × Int) => ref01_Gcd.p12 k x.1 x.2.1 x.2.2⟩, ⟨45, s45, fun k (x : LX × LX × Int) => ref01_Gcd.p45 k x.1 x.2.1 x.2.2⟩]
def fns : Nat → List (FuncId × FS) := fun k => [(36, ref01_Norm.fs k), (57, ref01_Cmp.fs k), (58, ref01_Bit.fs k), (59, ref01_Shift.fs k), (61, ref01_twice.fs k), (60, ref01_Sub.fs k)]
def fs (k : Nat) : FS := ⟨[tL, tL], [tL], fun (x : LX × LX) => ref01_Gcd.f k x.1 x.2⟩
theorem ok : FnO Try.prog 37 91 Try.f37 2 := okF _ (by kernel_rfl) (by kernel_rfl)
theorem c (k : Nat) : Contract Try.prog 37 (fs k) :=
  fnS [tL, tL] [tL] ptL fns fgs0 fws0 (fun k (x : LX × LX) => ref01_Gcd.f k x.1 x.2) ok ⟨⟨rfl, fun _ => rfl, fun k x => by kernel_rfl⟩, ⟨rfl, fun _ => rfl, fun k x => by kernel_rfl⟩, ⟨rfl, fun _ => rfl, fun k x => by kernel_rfl⟩, ⟨rfl, fun _ => rfl, fun k x => by kernel_rfl⟩, ⟨rfl, fun _ => rfl, fun k x => by kernel_rfl⟩, ⟨rfl, fun _ => rfl, fun k x => by kernel_rfl⟩, ⟨rfl, fun _ => rfl, fun k x => by kernel_rfl⟩, trivial⟩ (fun k x => by kernel_rfl) (fun k => ⟨⟨ref01_Norm.c k, ref01_Cmp.c k, ref01_Bit.c k, ref01_Shift.c k, ref01_twice.c k, ref01_Sub.c k, trivial⟩, trivial, trivial⟩) k
end ref01_Gcd

namespace ref01_Div
def s19 : PSig := ⟨0, [(47, (.int .u32), false)], [(0, .val tL), (1, .val tL), (7, .own 0), (8, .val (.int .i64))]⟩
def s0 : PSig := ⟨0, [(47, (.int .u32), false)], [(0, .val tL), (1, .val tL), (7, .own 0), (9, .val tL), (10, .val (.int .i64))]⟩
def s25 : PSig := ⟨0, [(47, (.int .u32), false)], [(0, .val tL), (1, .val tL), (7, .own 0), (9, .val tL), (10, .val (.int .i64))]⟩
def ptL : List (Pt (TD [tL, tL, (.int .i64)])) := [⟨19, s19, fun k (x : LX × LX × LX × Int) => ref01_Div.p19 k x.1 x.2.1 x.2.2.1 x.2.2.2⟩, ⟨0, s0, fun k (x : LX × LX × LX × LX × Int) => ref01_Div.p0 k x.1 x.2.1 x.2.2.1 x.2.2.2.1 x.2.2.2.2⟩, ⟨25, s25, fun k (x : LX × LX × LX × LX × Int) => ref01_Div.p25 k x.1 x.2.1 x.2.2.1 x.2.2.2.1 x.2.2.2.2⟩]
def fns : Nat → List (FuncId × FS) := fun k => [(36, ref01_Norm.fs k), (58, ref01_Bit.fs k), (61, ref01_twice.fs k), (57, ref01_Cmp.fs k), (60, ref01_Sub.fs k)]
def fs (k : Nat) : FS := ⟨[tL, tL], [tL, tL, (.int .i64)], fun (x : LX × LX) => ref01_Div.f k x.1 x.2⟩
theorem ok : FnO Try.prog 38 76 Try.f38 2 := okF _ (by kernel_rfl) (by kernel_rfl)
theorem c (k : Nat) : Contract Try.prog 38 (fs k) :=
  fnS [tL, tL] [tL, tL, (.int .i64)] ptL fns fgs0 fws0 (fun k (x : LX × LX) => ref01_Div.f k x.1 x.2) ok ⟨⟨rfl, fun _ => rfl, fun k x => by kernel_rfl⟩, ⟨rfl, fun _ => rfl, fun k x => by kernel_rfl⟩, ⟨rfl, fun _ => rfl, fun k x => by kernel_rfl⟩, trivial⟩ (fun k x => by kernel_rfl) (fun k => ⟨⟨ref01_Norm.c k, ref01_Bit.c k, ref01_twice.c k, ref01_Cmp.c k, ref01_Sub.c k, trivial⟩, trivial, trivial⟩) k
end ref01_Div

namespace ref03_Norm
def s9 : PSig := ⟨0, [(27, tQ, true)], [(2, .ptr 0 [])]⟩
def ptL : List (Pt (TD [tQ])) := [⟨9, s9, fun k (x : RX) => ref03_Norm.p9 k x⟩]
def fns : Nat → List (FuncId × FS) := fun k => [(35, ref02_Norm.fs k), (36, ref01_Norm.fs k), (37, ref01_Gcd.fs k), (38, ref01_Div.fs k)]
def fs (k : Nat) : FS := ⟨[tQ], [tQ], fun (x : RX) => ref03_Norm.f k x⟩
theorem ok : FnO Try.prog 22 55 Try.f22 1 := okF _ (by kernel_rfl) (by kernel_rfl)
theorem c (k : Nat) : Contract Try.prog 22 (fs k) :=
  fnS [tQ] [tQ] ptL fns fgs0 fws0 (fun k (x : RX) => ref03_Norm.f k x) ok ⟨⟨rfl, fun _ => rfl, fun k x => by kernel_rfl⟩, trivial⟩ (fun k x => by kernel_rfl) (fun k => ⟨⟨ref02_Norm.c k, ref01_Norm.c k, ref01_Gcd.c k, ref01_Div.c k, trivial⟩, trivial, trivial⟩) k
end ref03_Norm

namespace ref03_positive
def ptL : List (Pt (TD [tZ])) := []
def fs (k : Nat) : FS := ⟨[tL], [tZ], fun (x : LX) => ref03_positive.f k x⟩
theorem ok : FnO Try.prog 24 5 Try.f24 1 := okF _ (by kernel_rfl) (by kernel_rfl)
theorem c (k : Nat) : Contract Try.prog 24 (fs k) :=
  fnS [tL] [tZ] ptL fns0 fgs0 fws0 (fun k (x : LX) => ref03_positive.f k x) ok trivial (fun k x => by kernel_rfl) (fun _ => ⟨trivial, trivial, trivial⟩) k
end ref03_positive

namespace ref02_Sign
def ptL : List (Pt (TD [(.int .i64)])) := []
def fns : Nat → List (FuncId × FS) := fun k => [(35, ref02_Norm.fs k)]
def fs (k : Nat) : FS := ⟨[tZ], [(.int .i64)], fun (x : ZX) => ref02_Sign.f k x⟩
theorem ok : FnO Try.prog 27 12 Try.f27 1 := okF _ (by kernel_rfl) (by kernel_rfl)
theorem c (k : Nat) : Contract Try.prog 27 (fs k) :=
  fnS [tZ] [(.int .i64)] ptL fns fgs0 fws0 (fun k (x : ZX) => ref02_Sign.f k x) ok trivial (fun k x => by kernel_rfl) (fun k => ⟨⟨ref02_Norm.c k, trivial⟩, trivial, trivial⟩) k
end ref02_Sign

namespace ref02_Quo
def ptL : List (Pt (TD [tZ, tZ, (.int .i64)])) := []
def fns : Nat → List (FuncId × FS) := fun k => [(27, ref02_Sign.fs k), (38, ref01_Div.fs k), (56, ref02_made.fs k)]
def fs (k : Nat) : FS := ⟨[tZ, tZ], [tZ, tZ, (.int .i64)], fun (x : ZX × ZX) => ref02_Quo.f k x.1 x.2⟩
theorem ok : FnO Try.prog 39 35 Try.f39 2 := okF _ (by kernel_rfl) (by kernel_rfl)
theorem c (k : Nat) : Contract Try.prog 39 (fs k) :=
  fnS [tZ, tZ] [tZ, tZ, (.int .i64)] ptL fns fgs0 fws0 (fun k (x : ZX × ZX) => ref02_Quo.f k x.1 x.2) ok trivial (fun k x => by kernel_rfl) (fun k => ⟨⟨ref02_Sign.c k, ref01_Div.c k, ref02_made.c k, trivial⟩, trivial, trivial⟩) k
end ref02_Quo

namespace ref01_Of
def ptL : List (Pt (TD [tL])) := []
def fns : Nat → List (FuncId × FS) := fun k => [(36, ref01_Norm.fs k)]
def fs (k : Nat) : FS := ⟨[(.int .u64)], [tL], fun (x : Int) => ref01_Of.f k x⟩
theorem ok : FnO Try.prog 62 10 Try.f62 1 := okF _ (by kernel_rfl) (by kernel_rfl)
theorem c (k : Nat) : Contract Try.prog 62 (fs k) :=
  fnS [(.int .u64)] [tL] ptL fns fgs0 fws0 (fun k (x : Int) => ref01_Of.f k x) ok trivial (fun k x => by kernel_rfl) (fun k => ⟨⟨ref01_Norm.c k, trivial⟩, trivial, trivial⟩) k
end ref01_Of

namespace ref02_Of
def ptL : List (Pt (TD [tZ])) := []
def fns : Nat → List (FuncId × FS) := fun k => [(62, ref01_Of.fs k), (56, ref02_made.fs k)]
def fs (k : Nat) : FS := ⟨[(.int .i64)], [tZ], fun (x : Int) => ref02_Of.f k x⟩
theorem ok : FnO Try.prog 41 14 Try.f41 1 := okF _ (by kernel_rfl) (by kernel_rfl)
theorem c (k : Nat) : Contract Try.prog 41 (fs k) :=
  fnS [(.int .i64)] [tZ] ptL fns fgs0 fws0 (fun k (x : Int) => ref02_Of.f k x) ok trivial (fun k x => by kernel_rfl) (fun k => ⟨⟨ref01_Of.c k, ref02_made.c k, trivial⟩, trivial, trivial⟩) k
end ref02_Of

namespace ref02_Neg
def ptL : List (Pt (TD [tZ])) := []
def fns : Nat → List (FuncId × FS) := fun k => [(56, ref02_made.fs k)]
def fs (k : Nat) : FS := ⟨[tZ], [tZ], fun (x : ZX) => ref02_Neg.f k x⟩
theorem ok : FnO Try.prog 45 9 Try.f45 1 := okF _ (by kernel_rfl) (by kernel_rfl)
theorem c (k : Nat) : Contract Try.prog 45 (fs k) :=
  fnS [tZ] [tZ] ptL fns fgs0 fws0 (fun k (x : ZX) => ref02_Neg.f k x) ok trivial (fun k x => by kernel_rfl) (fun k => ⟨⟨ref02_made.c k, trivial⟩, trivial, trivial⟩) k
end ref02_Neg

namespace ref01_Add
def s9 : PSig := ⟨0, [], [(0, .val tL), (1, .val tL), (5, .val (.int .i64))]⟩
def s0 : PSig := ⟨0, [(47, (.int .u32), false)], [(0, .val tL), (1, .val tL), (5, .val (.int .i64)), (6, .own 0), (7, .val (.int .u64)), (8, .val (.int .i64))]⟩
def ptL : List (Pt (TD [tL])) := [⟨9, s9, fun k (x : LX × LX × Int) => ref01_Add.p9 k x.1 x.2.1 x.2.2⟩, ⟨0, s0, fun k (x : LX × LX × LX × Int × Int × Int) => ref01_Add.p0 k x.1 x.2.1 x.2.2.1 x.2.2.2.1 x.2.2.2.2.1 x.2.2.2.2.2⟩]
def fns : Nat → List (FuncId × FS) := fun k => [(76, ref01_at.fs k), (36, ref01_Norm.fs k)]
def fs (k : Nat) : FS := ⟨[tL, tL], [tL], fun (x : LX × LX) => ref01_Add.f k x.1 x.2⟩
theorem ok : FnO Try.prog 63 44 Try.f63 2 := okF _ (by kernel_rfl) (by kernel_rfl)
theorem c (k : Nat) : Contract Try.prog 63 (fs k) :=
  fnS [tL, tL] [tL] ptL fns fgs0 fws0 (fun k (x : LX × LX) => ref01_Add.f k x.1 x.2) ok ⟨⟨rfl, fun _ => rfl, fun k x => by kernel_rfl⟩, ⟨rfl, fun _ => rfl, fun k x => by kernel_rfl⟩, trivial⟩ (fun k x => by kernel_rfl) (fun k => ⟨⟨ref01_at.c k, ref01_Norm.c k, trivial⟩, trivial, trivial⟩) k
end ref01_Add

namespace ref02_Add
def ptL : List (Pt (TD [tZ])) := []
def fns : Nat → List (FuncId × FS) := fun k => [(63, ref01_Add.fs k), (56, ref02_made.fs k), (57, ref01_Cmp.fs k), (60, ref01_Sub.fs k)]
def fs (k : Nat) : FS := ⟨[tZ, tZ], [tZ], fun (x : ZX × ZX) => ref02_Add.f k x.1 x.2⟩
theorem ok : FnO Try.prog 42 52 Try.f42 2 := okF _ (by kernel_rfl) (by kernel_rfl)
theorem c (k : Nat) : Contract Try.prog 42 (fs k) :=
  fnS [tZ, tZ] [tZ] ptL fns fgs0 fws0 (fun k (x : ZX × ZX) => ref02_Add.f k x.1 x.2) ok trivial (fun k x => by kernel_rfl) (fun k => ⟨⟨ref01_Add.c k, ref02_made.c k, ref01_Cmp.c k, ref01_Sub.c k, trivial⟩, trivial, trivial⟩) k
end ref02_Add

namespace ref02_Sub
def ptL : List (Pt (TD [tZ])) := []
def fns : Nat → List (FuncId × FS) := fun k => [(45, ref02_Neg.fs k), (42, ref02_Add.fs k)]
def fs (k : Nat) : FS := ⟨[tZ, tZ], [tZ], fun (x : ZX × ZX) => ref02_Sub.f k x.1 x.2⟩
theorem ok : FnO Try.prog 40 9 Try.f40 2 := okF _ (by kernel_rfl) (by kernel_rfl)
theorem c (k : Nat) : Contract Try.prog 40 (fs k) :=
  fnS [tZ, tZ] [tZ] ptL fns fgs0 fws0 (fun k (x : ZX × ZX) => ref02_Sub.f k x.1 x.2) ok trivial (fun k x => by kernel_rfl) (fun k => ⟨⟨ref02_Neg.c k, ref02_Add.c k, trivial⟩, trivial, trivial⟩) k
end ref02_Sub

namespace ref02_Floor
def s9 : PSig := ⟨0, [(25, tZ, true), (25, tZ, true), (25, tZ, true), (25, tZ, true)], [(4, .ptr 0 []), (5, .ptr 1 []), (7, .ptr 2 []), (8, .ptr 3 []), (9, .val (.int .i64))]⟩
def ptL : List (Pt (TD [tZ, tZ, (.int .i64)])) := [⟨9, s9, fun k (x : ZX × ZX × ZX × ZX × Int) => ref02_Floor.p9 k x.1 x.2.1 x.2.2.1 x.2.2.2.1 x.2.2.2.2⟩]
def fns : Nat → List (FuncId × FS) := fun k => [(39, ref02_Quo.fs k), (27, ref02_Sign.fs k), (41, ref02_Of.fs k), (40, ref02_Sub.fs k), (42, ref02_Add.fs k)]
def fs (k : Nat) : FS := ⟨[tZ, tZ], [tZ, tZ, (.int .i64)], fun (x : ZX × ZX) => ref02_Floor.f k x.1 x.2⟩
theorem ok : FnO Try.prog 23 40 Try.f23 2 := okF _ (by kernel_rfl) (by kernel_rfl)
theorem c (k : Nat) : Contract Try.prog 23 (fs k) :=
  fnS [tZ, tZ] [tZ, tZ, (.int .i64)] ptL fns fgs0 fws0 (fun k (x : ZX × ZX) => ref02_Floor.f k x.1 x.2) ok ⟨⟨rfl, fun _ => rfl, fun k x => by kernel_rfl⟩, trivial⟩ (fun k x => by kernel_rfl) (fun k => ⟨⟨ref02_Quo.c k, ref02_Sign.c k, ref02_Of.c k, ref02_Sub.c k, ref02_Add.c k, trivial⟩, trivial, trivial⟩) k
end ref02_Floor

namespace ref03_Floor
def ptL : List (Pt (TD [tZ])) := []
def fns : Nat → List (FuncId × FS) := fun k => [(22, ref03_Norm.fs k), (24, ref03_positive.fs k), (23, ref02_Floor.fs k)]
def fs (k : Nat) : FS := ⟨[tQ], [tZ], fun (x : RX) => ref03_Floor.f k x⟩
theorem ok : FnO Try.prog 11 19 Try.f11 1 := okF _ (by kernel_rfl) (by kernel_rfl)
theorem c (k : Nat) : Contract Try.prog 11 (fs k) :=
  fnS [tQ] [tZ] ptL fns fgs0 fws0 (fun k (x : RX) => ref03_Floor.f k x) ok trivial (fun k x => by kernel_rfl) (fun k => ⟨⟨ref03_Norm.c k, ref03_positive.c k, ref02_Floor.c k, trivial⟩, trivial, trivial⟩) k
end ref03_Floor

namespace ref03_Int
def ptL : List (Pt (TD [tQ])) := []
def fns : Nat → List (FuncId × FS) := fun k => [(22, ref03_Norm.fs k)]
def fs (k : Nat) : FS := ⟨[tZ], [tQ], fun (x : ZX) => ref03_Int.f k x⟩
theorem ok : FnO Try.prog 13 7 Try.f13 1 := okF _ (by kernel_rfl) (by kernel_rfl)
theorem c (k : Nat) : Contract Try.prog 13 (fs k) :=
  fnS [tZ] [tQ] ptL fns fgs0 fws0 (fun k (x : ZX) => ref03_Int.f k x) ok trivial (fun k x => by kernel_rfl) (fun k => ⟨⟨ref03_Norm.c k, trivial⟩, trivial, trivial⟩) k
end ref03_Int

namespace ref03_Neg
def ptL : List (Pt (TD [tQ])) := []
def fns : Nat → List (FuncId × FS) := fun k => [(22, ref03_Norm.fs k), (45, ref02_Neg.fs k)]
def fs (k : Nat) : FS := ⟨[tQ], [tQ], fun (x : RX) => ref03_Neg.f k x⟩
theorem ok : FnO Try.prog 26 12 Try.f26 1 := okF _ (by kernel_rfl) (by kernel_rfl)
theorem c (k : Nat) : Contract Try.prog 26 (fs k) :=
  fnS [tQ] [tQ] ptL fns fgs0 fws0 (fun k (x : RX) => ref03_Neg.f k x) ok trivial (fun k x => by kernel_rfl) (fun k => ⟨⟨ref03_Norm.c k, ref02_Neg.c k, trivial⟩, trivial, trivial⟩) k
end ref03_Neg

namespace ref01_Mul
def s0 : PSig := ⟨0, [(47, (.int .u32), false)], [(0, .val tL), (1, .val tL), (5, .own 0), (6, .val (.int .i64))]⟩
def s4 : PSig := ⟨0, [(47, (.int .u32), false)], [(0, .val tL), (1, .val tL), (5, .own 0), (6, .val (.int .i64)), (7, .val (.int .u64)), (8, .val (.int .i64))]⟩
def ptL : List (Pt (TD [tL])) := [⟨0, s0, fun k (x : LX × LX × LX × Int) => ref01_Mul.p0 k x.1 x.2.1 x.2.2.1 x.2.2.2⟩, ⟨4, s4, fun k (x : LX × LX × LX × Int × Int × Int) => ref01_Mul.p4 k x.1 x.2.1 x.2.2.1 x.2.2.2.1 x.2.2.2.2.1 x.2.2.2.2.2⟩]
def fns : Nat → List (FuncId × FS) := fun k => [(36, ref01_Norm.fs k)]
def fs (k : Nat) : FS := ⟨[tL, tL], [tL], fun (x : LX × LX) => ref01_Mul.f k x.1 x.2⟩
theorem ok : FnO Try.prog 44 68 Try.f44 2 := okF _ (by kernel_rfl) (by kernel_rfl)
theorem c (k : Nat) : Contract Try.prog 44 (fs k) :=
  fnS [tL, tL] [tL] ptL fns fgs0 fws0 (fun k (x : LX × LX) => ref01_Mul.f k x.1 x.2) ok ⟨⟨rfl, fun _ => rfl, fun k x => by kernel_rfl⟩, ⟨rfl, fun _ => rfl, fun k x => by kernel_rfl⟩, trivial⟩ (fun k x => by kernel_rfl) (fun k => ⟨⟨ref01_Norm.c k, trivial⟩, trivial, trivial⟩) k
end ref01_Mul

namespace ref02_Mul
def ptL : List (Pt (TD [tZ])) := []
def fns : Nat → List (FuncId × FS) := fun k => [(44, ref01_Mul.fs k), (56, ref02_made.fs k)]
def fs (k : Nat) : FS := ⟨[tZ, tZ], [tZ], fun (x : ZX × ZX) => ref02_Mul.f k x.1 x.2⟩
theorem ok : FnO Try.prog 43 16 Try.f43 2 := okF _ (by kernel_rfl) (by kernel_rfl)
theorem c (k : Nat) : Contract Try.prog 43 (fs k) :=
  fnS [tZ, tZ] [tZ] ptL fns fgs0 fws0 (fun k (x : ZX × ZX) => ref02_Mul.f k x.1 x.2) ok trivial (fun k x => by kernel_rfl) (fun k => ⟨⟨ref01_Mul.c k, ref02_made.c k, trivial⟩, trivial, trivial⟩) k
end ref02_Mul

namespace ref03_Add
def ptL : List (Pt (TD [tQ])) := []
def fns : Nat → List (FuncId × FS) := fun k => [(22, ref03_Norm.fs k), (24, ref03_positive.fs k), (43, ref02_Mul.fs k), (42, ref02_Add.fs k), (44, ref01_Mul.fs k)]
def fs (k : Nat) : FS := ⟨[tQ, tQ], [tQ], fun (x : RX × RX) => ref03_Add.f k x.1 x.2⟩
theorem ok : FnO Try.prog 25 31 Try.f25 2 := okF _ (by kernel_rfl) (by kernel_rfl)
theorem c (k : Nat) : Contract Try.prog 25 (fs k) :=
  fnS [tQ, tQ] [tQ] ptL fns fgs0 fws0 (fun k (x : RX × RX) => ref03_Add.f k x.1 x.2) ok trivial (fun k x => by kernel_rfl) (fun k => ⟨⟨ref03_Norm.c k, ref03_positive.c k, ref02_Mul.c k, ref02_Add.c k, ref01_Mul.c k, trivial⟩, trivial, trivial⟩) k
end ref03_Add

namespace ref03_Sub
def ptL : List (Pt (TD [tQ])) := []
def fns : Nat → List (FuncId × FS) := fun k => [(26, ref03_Neg.fs k), (25, ref03_Add.fs k)]
def fs (k : Nat) : FS := ⟨[tQ, tQ], [tQ], fun (x : RX × RX) => ref03_Sub.f k x.1 x.2⟩
theorem ok : FnO Try.prog 12 9 Try.f12 2 := okF _ (by kernel_rfl) (by kernel_rfl)
theorem c (k : Nat) : Contract Try.prog 12 (fs k) :=
  fnS [tQ, tQ] [tQ] ptL fns fgs0 fws0 (fun k (x : RX × RX) => ref03_Sub.f k x.1 x.2) ok trivial (fun k x => by kernel_rfl) (fun k => ⟨⟨ref03_Neg.c k, ref03_Add.c k, trivial⟩, trivial, trivial⟩) k
end ref03_Sub

namespace ref03_Sign
def ptL : List (Pt (TD [(.int .i64)])) := []
def fns : Nat → List (FuncId × FS) := fun k => [(22, ref03_Norm.fs k), (27, ref02_Sign.fs k)]
def fs (k : Nat) : FS := ⟨[tQ], [(.int .i64)], fun (x : RX) => ref03_Sign.f k x⟩
theorem ok : FnO Try.prog 14 7 Try.f14 1 := okF _ (by kernel_rfl) (by kernel_rfl)
theorem c (k : Nat) : Contract Try.prog 14 (fs k) :=
  fnS [tQ] [(.int .i64)] ptL fns fgs0 fws0 (fun k (x : RX) => ref03_Sign.f k x) ok trivial (fun k x => by kernel_rfl) (fun k => ⟨⟨ref03_Norm.c k, ref02_Sign.c k, trivial⟩, trivial, trivial⟩) k
end ref03_Sign

namespace ref03_Of
def ptL : List (Pt (TD [tQ, (.int .i64)])) := []
def fns : Nat → List (FuncId × FS) := fun k => [(35, ref02_Norm.fs k), (22, ref03_Norm.fs k)]
def fs (k : Nat) : FS := ⟨[tZ, tZ], [tQ, (.int .i64)], fun (x : ZX × ZX) => ref03_Of.f k x.1 x.2⟩
theorem ok : FnO Try.prog 28 29 Try.f28 2 := okF _ (by kernel_rfl) (by kernel_rfl)
theorem c (k : Nat) : Contract Try.prog 28 (fs k) :=
  fnS [tZ, tZ] [tQ, (.int .i64)] ptL fns fgs0 fws0 (fun k (x : ZX × ZX) => ref03_Of.f k x.1 x.2) ok trivial (fun k x => by kernel_rfl) (fun k => ⟨⟨ref02_Norm.c k, ref03_Norm.c k, trivial⟩, trivial, trivial⟩) k
end ref03_Of

namespace ref03_Inv
def ptL : List (Pt (TD [tQ, (.int .i64)])) := []
def fns : Nat → List (FuncId × FS) := fun k => [(22, ref03_Norm.fs k), (24, ref03_positive.fs k), (28, ref03_Of.fs k)]
def fs (k : Nat) : FS := ⟨[tQ], [tQ, (.int .i64)], fun (x : RX) => ref03_Inv.f k x⟩
theorem ok : FnO Try.prog 15 14 Try.f15 1 := okF _ (by kernel_rfl) (by kernel_rfl)
theorem c (k : Nat) : Contract Try.prog 15 (fs k) :=
  fnS [tQ] [tQ, (.int .i64)] ptL fns fgs0 fws0 (fun k (x : RX) => ref03_Inv.f k x) ok trivial (fun k x => by kernel_rfl) (fun k => ⟨⟨ref03_Norm.c k, ref03_positive.c k, ref03_Of.c k, trivial⟩, trivial, trivial⟩) k
end ref03_Inv

namespace ref03_Expand
def s0 : PSig := ⟨0, [(27, tQ, true), (25, tZ, false)], [(1, .ptr 0 []), (3, .own 1)]⟩
def ptL : List (Pt (TD [(.list tZ)])) := [⟨0, s0, fun k (x : RX × (List ZX)) => ref03_Expand.p0 k x.1 x.2⟩]
def fns : Nat → List (FuncId × FS) := fun k => [(11, ref03_Floor.fs k), (13, ref03_Int.fs k), (12, ref03_Sub.fs k), (14, ref03_Sign.fs k), (15, ref03_Inv.fs k)]
def fs (k : Nat) : FS := ⟨[tQ], [(.list tZ)], fun (x : RX) => ref03_Expand.f k x⟩
theorem ok : FnO Try.prog 6 26 Try.f6 1 := okF _ (by kernel_rfl) (by kernel_rfl)
theorem c (k : Nat) : Contract Try.prog 6 (fs k) :=
  fnS [tQ] [(.list tZ)] ptL fns fgs0 fws0 (fun k (x : RX) => ref03_Expand.f k x) ok ⟨⟨rfl, fun _ => rfl, fun k x => by kernel_rfl⟩, trivial⟩ (fun k x => by kernel_rfl) (fun k => ⟨⟨ref03_Floor.c k, ref03_Int.c k, ref03_Sub.c k, ref03_Sign.c k, ref03_Inv.c k, trivial⟩, trivial, trivial⟩) k
end ref03_Expand

namespace ref01_Same
def s0 : PSig := ⟨0, [], [(0, .val tL), (1, .val tL), (5, .val (.int .i64))]⟩
def ptL : List (Pt (TD [.bool])) := [⟨0, s0, fun k (x : LX × LX × Int) => ref01_Same.p0 k x.1 x.2.1 x.2.2⟩]
def fs (k : Nat) : FS := ⟨[tL, tL], [.bool], fun (x : LX × LX) => ref01_Same.f k x.1 x.2⟩
theorem ok : FnO Try.prog 16 26 Try.f16 2 := okF _ (by kernel_rfl) (by kernel_rfl)
theorem c (k : Nat) : Contract Try.prog 16 (fs k) :=
  fnS [tL, tL] [.bool] ptL fns0 fgs0 fws0 (fun k (x : LX × LX) => ref01_Same.f k x.1 x.2) ok ⟨⟨rfl, fun _ => rfl, fun k x => by kernel_rfl⟩, trivial⟩ (fun k x => by kernel_rfl) (fun _ => ⟨trivial, trivial, trivial⟩) k
end ref01_Same

namespace law03_sameInt
def ptL : List (Pt (TD [.bool])) := []
def fns : Nat → List (FuncId × FS) := fun k => [(16, ref01_Same.fs k)]
def fs (k : Nat) : FS := ⟨[tZ, tZ], [.bool], fun (x : ZX × ZX) => law03_sameInt.f k x.1 x.2⟩
theorem ok : FnO Try.prog 7 17 Try.f7 2 := okF _ (by kernel_rfl) (by kernel_rfl)
theorem c (k : Nat) : Contract Try.prog 7 (fs k) :=
  fnS [tZ, tZ] [.bool] ptL fns fgs0 fws0 (fun k (x : ZX × ZX) => law03_sameInt.f k x.1 x.2) ok trivial (fun k x => by kernel_rfl) (fun k => ⟨⟨ref01_Same.c k, trivial⟩, trivial, trivial⟩) k
end law03_sameInt

namespace law03_RatioFractions
def s0 : PSig := ⟨0, [], [(3, .val (.list tZ)), (4, .val (.list tZ)), (5, .val (.int .i64))]⟩
def ptL : List (Pt (TD [.bool])) := [⟨0, s0, fun k (x : (List ZX) × (List ZX) × Int) => law03_RatioFractions.p0 k x.1 x.2.1 x.2.2⟩]
def fns : Nat → List (FuncId × FS) := fun k => [(5, law03_twin.fs k), (4, ⟨[tQ], [(.list tZ)], fun (x : RX) => ratio_Expand.f k x⟩), (6, ref03_Expand.fs k), (7, law03_sameInt.fs k)]
def fs (k : Nat) : FS := ⟨[tQ], [.bool], fun (x : RX) => law03_RatioFractions.f k x⟩
theorem ok : FnO Try.prog 3 32 Try.f3 1 := okF _ (by kernel_rfl) (by kernel_rfl)
theorem c (k : Nat) : Contract Try.prog 3 (fs k) :=
  fnS [tQ] [.bool] ptL fns fgs0 fws0 (fun k (x : RX) => law03_RatioFractions.f k x) ok ⟨⟨rfl, fun _ => rfl, fun k x => by kernel_rfl⟩, trivial⟩ (fun k x => by kernel_rfl) (fun k => ⟨⟨law03_twin.c k, ratio_Expand.c k, ref03_Expand.c k, law03_sameInt.c k, trivial⟩, trivial, trivial⟩) k
end law03_RatioFractions
end Go.Proofs.Ytllpdchpjhgkgaa
