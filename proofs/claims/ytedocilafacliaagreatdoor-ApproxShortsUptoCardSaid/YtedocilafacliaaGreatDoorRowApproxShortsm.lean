/- ApproxShorts: called with any arguments, of at most 1048576 values and letters, the law's function returns true, while the listed package variables hold what the row lists: the card of the second form (Upto). -/
import Derived.Test.YtedocilafacliaaGreatDoorM6
import Derived.Test.YtedocilafacliaaGreatDoorCtm
import Derived.Test.YtedocilafacliaaGreatDoorCards
import Derived.Test.YtedocilafacliaaGreatDoorTie
import Derived.WalkKit
import Derived.ProofKit
import Derived.OpenShut
import Derived.Deep.DeepHandedRow
import Derived.Lib.LaidTab
import Derived.JoinedCond
import Derived.Deep.DeepWitnessRowRef
namespace Go.Proofs.YtedocilafacliaaGreatDoor.rowApproxShorts
open Go.FK Go.ChangeShapes Go.WideShapes Go.ChangeAt Go.RowKit

theorem own : ownKnob Tryz.prog.godebug = none := by kernel_rfl
theorem laidOut : laidOutB Tryz.prog = true := by kernel_rfl

theorem readable : ∀ T ∈ Tryz.f5.params.toList, Tryz.prog.readableRec T = true ∧ T < Tryz.prog.types.size := by
  have h : (Tryz.f5.params.toList.all fun T => Tryz.prog.readableRec T && decide (T < Tryz.prog.types.size)) = true := by kernel_rfl
  intro T hT
  have h2 := List.all_eq_true.1 h T hT
  simpa using h2

theorem gTab : Tryz.prog.globalNamed "fulcrum/nat.values" = some 1 := by kernel_rfl
theorem gTabType : (Tryz.prog.globals[1]?).map (·.type) = some 139 := by kernel_rfl
theorem cellsArr : Tryz.prog.cellsOf 139 = 55 := by kernel_rfl
theorem cellsEl : Tryz.prog.cellsOf 84 = 1 := by kernel_rfl
theorem table {W : World} (h : laidMetH Tryz.prog Rows.approxShortsUptoRow.laid W) : Lib.TabIs Tryz.prog W "fulcrum/nat.values" .u32 [0, 1, 2, 3, 4, 5, 6, 7, 8, 9, 99, 99, 99, 99, 99, 99, 99, 99, 99, 99, 99, 99, 99, 99, 99, 99, 99, 99, 99, 99, 99, 99, 99, 99, 99, 99, 99, 99, 99, 99, 99, 99, 99, 99, 99, 99, 99, 99, 99, 10, 11, 12, 13, 14, 15] :=
by
  have h' : laidMet Tryz.prog Rows.approxShortsUptoRow.laid W := h
  obtain ⟨ps, ⟨_, _, _, _, _, _, _, _, _, _, ⟨_, _, _, _, _, _, _, _, _, _, ⟨g', t', cs, fuel, p, q, hg', ht', hvar, hd, _, _⟩, _⟩, _⟩, _⟩ := h'
  obtain rfl := Option.some.inj (gTab.symm.trans hg')
  obtain rfl := Option.some.inj (gTabType.symm.trans ht')
  unfold Lib.TabIs
  rw [hvar, ← Lib.cells_of_tab Tryz.underlying139 Tryz.underlying84 cellsEl cellsArr hd]
theorem gTab1 : Tryz.prog.globalNamed "internal/strconv.uint64pow10" = some 7 := by kernel_rfl
theorem gTabType1 : (Tryz.prog.globals[7]?).map (·.type) = some 184 := by kernel_rfl
theorem cellsArr1 : Tryz.prog.cellsOf 184 = 20 := by kernel_rfl
theorem cellsEl1 : Tryz.prog.cellsOf 45 = 1 := by kernel_rfl
theorem table1 {W : World} (h : laidMetH Tryz.prog Rows.approxShortsUptoRow.laid W) : Lib.TabIs Tryz.prog W "internal/strconv.uint64pow10" .u64 [1, 10, 100, 1000, 10000, 100000, 1000000, 10000000, 100000000, 1000000000, 10000000000, 100000000000, 1000000000000, 10000000000000, 100000000000000, 1000000000000000, 10000000000000000, 100000000000000000, 1000000000000000000, 10000000000000000000] :=
by
  have h' : laidMet Tryz.prog Rows.approxShortsUptoRow.laid W := h
  obtain ⟨ps, ⟨_, _, _, _, _, _, _, _, _, _, ⟨_, _, _, _, _, _, _, _, _, _, ⟨_, _, _, _, _, _, _, _, _, _, ⟨g', t', cs, fuel, p, q, hg', ht', hvar, hd, _, _⟩, _⟩, _⟩, _⟩, _⟩ := h'
  obtain rfl := Option.some.inj (gTab1.symm.trans hg')
  obtain rfl := Option.some.inj (gTabType1.symm.trans ht')
  unfold Lib.TabIs
  rw [hvar, ← Lib.cells_of_tab Tryz.underlying184 Tryz.underlying45 cellsEl1 cellsArr1 hd]
theorem gl_of {W : World} (h : laidMetH Tryz.prog Rows.approxShortsUptoRow.laid W) : Gl (fun _ => False) W := by
  intro g k l hg
  unfold glob globL at hg
  simp only [lookN] at hg
  cases e0 : (g == 1) <;> rw [e0] at hg
  case true =>
    obtain rfl : g = 1 := by simpa using e0
    simp only [cond_true, Option.some.injEq, Prod.mk.injEq] at hg
    obtain ⟨rfl, rfl⟩ := hg
    have hT := table h
    have hT' := hT
    unfold Lib.TabIs World.var? at hT'
    rw [gTab] at hT'
    simp only [Option.bind_some] at hT'
    refine ⟨World.block_lt_of_cell? W _ (hT.cell gTab 0 (by decide)), fun h => h, fun j x hx => ?_, ?_⟩
    · have hj := (List.getElem?_eq_some_iff.1 hx).1
      have := hT.cell gTab j hj
      rw [List.getD_eq_getElem?_getD, hx] at this
      have e2 : (⟨1, 0, none⟩ : Addr).add j = ⟨1, j, none⟩ := by unfold Addr.add; split <;> simp_all
      rw [e2]
      exact this
    · split at hT'
      · rename_i cs t fr e
        injection hT' with hT'
        subst hT'
        exact ⟨t, fr, e⟩
      · cases hT'
  simp only [cond_false] at hg
  cases e1 : (g == 7) <;> rw [e1] at hg
  case true =>
    obtain rfl : g = 7 := by simpa using e1
    simp only [cond_true, Option.some.injEq, Prod.mk.injEq] at hg
    obtain ⟨rfl, rfl⟩ := hg
    have hT := table1 h
    have hT' := hT
    unfold Lib.TabIs World.var? at hT'
    rw [gTab1] at hT'
    simp only [Option.bind_some] at hT'
    refine ⟨World.block_lt_of_cell? W _ (hT.cell gTab1 0 (by decide)), fun h => h, fun j x hx => ?_, ?_⟩
    · have hj := (List.getElem?_eq_some_iff.1 hx).1
      have := hT.cell gTab1 j hj
      rw [List.getD_eq_getElem?_getD, hx] at this
      have e2 : (⟨7, 0, none⟩ : Addr).add j = ⟨7, j, none⟩ := by unfold Addr.add; split <;> simp_all
      rw [e2]
      exact this
    · split at hT'
      · rename_i cs t fr e
        injection hT' with hT'
        subst hT'
        exact ⟨t, fr, e⟩
      · cases hT'
  simp only [cond_false] at hg
  cases hg

set_option maxRecDepth 100000 in
theorem contract (H : Type) (enc : TypeId × Value → H) (W : World) (base : Nat) (args : Array Value) (ds gs : List (DataW H)) (before : List MemPlace)
    (hval : ∀ (j : Nat) t v, Tryz.f5.params[j]? = some t → args[j]? = some v → Value.okWide Tryz.prog W .any base t v)
    (hW : DataW.Whole enc Tryz.prog Tryz.f5.params.toList Rows.approxShortsSpec.vars false W args.toList ds gs before) (hk : Rows.uptoSmall H (ds ++ gs) = true) (hL : laidMetH Tryz.prog Rows.approxShortsUptoRow.laid W) :
    Calls Tryz.prog 5 args W fun e W' => ∃ v, e = .returned v ∧ Rows.approxShortsSpec.post enc Tryz.prog Tryz.f5 false true false false W args v W' := by
  have hW' := hW
  obtain ⟨p, q, hA, hV, rfl, hfz, hnd⟩ := hW
  obtain ⟨rfl, rfl⟩ := trodVars_none hV
  obtain ⟨x, k1, k2, k3⟩ := args_told [.flt] Tryz.f5.params.toList args.toList ds p (by kernel_rfl) (fun j T v h1 h2 => hval j T v (Array.getElem?_toList.symm.trans h1) (Array.getElem?_toList.symm.trans h2)) hA
  have hb : Rows.uptoBulkAll ds ≤ 1048576 := by
    have := of_decide_eq_true hk
    simpa using this
  have hx := shorts_math x k2 (Nat.le_trans k3 hb)
  have hlt := fun y hy => hW'.lt y hy
  obtain ⟨d1, rfl⟩ : ∃ d1, ds = [d1] := by
    have h : ds.length = 1 := trodAll_length hA
    match ds, h with
    | [d1], _ => exact ⟨d1, rfl⟩
  simp only [List.append_nil] at hW' hlt
  refine (law_calls (c := Tryz.f5.body.getD .skip) (ps := [.flt]) (F := fun k (x : TD [.flt]) => law04_ApproxShorts.f k x) Tryz.func5 (by kernel_rfl) (by kernel_rfl) (fun k => law04_ApproxShorts.c k) hx (gl_of hL) k1).mono fun e W' ⟨he, hbel⟩ => ?_
  subst he
  refine ⟨_, rfl, post_of_below hW' hbel (fun _ _ _ => trodAll_cons_mk (shut_bool Tryz.underlying4 _) trodAll_mk0) (fun sp hsp => ?_) (fun _ => rfl) (ok_one (by kernel_rfl) rfl (okWide_bool_mk Tryz.underlying4 _))⟩
  exact trodAll_later laidOut hbel _ _ _ _ readable hA hlt sp hsp

/-- A world for the witness: the settled one, the listed tables holding what their initialisers lay. -/
noncomputable def laidWorld (os : Os) : World :=
  { World.holding Tryz.prog os ⟨#[], #[], []⟩ with heap := (((((((((((World.holding Tryz.prog os ⟨#[], #[], []⟩).heap.modify 1 fun
      | .cells _ t frozen => .cells #[.int .u32 0, .int .u32 1, .int .u32 2, .int .u32 3, .int .u32 4, .int .u32 5, .int .u32 6, .int .u32 7, .int .u32 8, .int .u32 9, .int .u32 99, .int .u32 99, .int .u32 99, .int .u32 99, .int .u32 99, .int .u32 99, .int .u32 99, .int .u32 99, .int .u32 99, .int .u32 99, .int .u32 99, .int .u32 99, .int .u32 99, .int .u32 99, .int .u32 99, .int .u32 99, .int .u32 99, .int .u32 99, .int .u32 99, .int .u32 99, .int .u32 99, .int .u32 99, .int .u32 99, .int .u32 99, .int .u32 99, .int .u32 99, .int .u32 99, .int .u32 99, .int .u32 99, .int .u32 99, .int .u32 99, .int .u32 99, .int .u32 99, .int .u32 99, .int .u32 99, .int .u32 99, .int .u32 99, .int .u32 99, .int .u32 99, .int .u32 10, .int .u32 11, .int .u32 12, .int .u32 13, .int .u32 14, .int .u32 15] t frozen
      | o => o).modify 9 fun
      | .cells _ t frozen => .cells #[.int .u8 0, .int .u8 1, .int .u8 28, .int .u8 2, .int .u8 29, .int .u8 14, .int .u8 24, .int .u8 3, .int .u8 30, .int .u8 22, .int .u8 20, .int .u8 15, .int .u8 25, .int .u8 17, .int .u8 4, .int .u8 8, .int .u8 31, .int .u8 27, .int .u8 13, .int .u8 23, .int .u8 21, .int .u8 19, .int .u8 16, .int .u8 7, .int .u8 26, .int .u8 12, .int .u8 18, .int .u8 6, .int .u8 11, .int .u8 5, .int .u8 10, .int .u8 9] t frozen
      | o => o).modify 10 fun
      | .cells _ t frozen => .cells #[.int .u8 0, .int .u8 1, .int .u8 56, .int .u8 2, .int .u8 57, .int .u8 49, .int .u8 28, .int .u8 3, .int .u8 61, .int .u8 58, .int .u8 42, .int .u8 50, .int .u8 38, .int .u8 29, .int .u8 17, .int .u8 4, .int .u8 62, .int .u8 47, .int .u8 59, .int .u8 36, .int .u8 45, .int .u8 43, .int .u8 51, .int .u8 22, .int .u8 53, .int .u8 39, .int .u8 33, .int .u8 30, .int .u8 24, .int .u8 18, .int .u8 12, .int .u8 5, .int .u8 63, .int .u8 55, .int .u8 48, .int .u8 27, .int .u8 60, .int .u8 41, .int .u8 37, .int .u8 16, .int .u8 46, .int .u8 35, .int .u8 44, .int .u8 21, .int .u8 52, .int .u8 32, .int .u8 23, .int .u8 11, .int .u8 54, .int .u8 26, .int .u8 40, .int .u8 15, .int .u8 34, .int .u8 20, .int .u8 31, .int .u8 10, .int .u8 25, .int .u8 14, .int .u8 19, .int .u8 9, .int .u8 13, .int .u8 8, .int .u8 7, .int .u8 6] t frozen
      | o => o).modify 7 fun
      | .cells _ t frozen => .cells #[.int .u64 1, .int .u64 10, .int .u64 100, .int .u64 1000, .int .u64 10000, .int .u64 100000, .int .u64 1000000, .int .u64 10000000, .int .u64 100000000, .int .u64 1000000000, .int .u64 10000000000, .int .u64 100000000000, .int .u64 1000000000000, .int .u64 10000000000000, .int .u64 100000000000000, .int .u64 1000000000000000, .int .u64 10000000000000000, .int .u64 100000000000000000, .int .u64 1000000000000000000, .int .u64 10000000000000000000] t frozen
      | o => o).modify 6 fun
      | .cells _ t frozen => .cells #[.int .u8 128, .int .u8 191, .int .u8 160, .int .u8 191, .int .u8 128, .int .u8 159, .int .u8 144, .int .u8 191, .int .u8 128, .int .u8 143, .int .u8 0, .int .u8 0, .int .u8 0, .int .u8 0, .int .u8 0, .int .u8 0, .int .u8 0, .int .u8 0, .int .u8 0, .int .u8 0, .int .u8 0, .int .u8 0, .int .u8 0, .int .u8 0, .int .u8 0, .int .u8 0, .int .u8 0, .int .u8 0, .int .u8 0, .int .u8 0, .int .u8 0, .int .u8 0] t frozen
      | o => o).modify 5 fun
      | .cells _ t frozen => .cells (Go.Pinned.utf8FirstZ.map fun z => Value.int .u8 (Int.ofNat z)).toArray t frozen
      | o => o).modify 3 fun
      | .cells _ t frozen => .cells #[.iface 180 (.pointer (some ⟨16, 0, none⟩))] t frozen
      | o => o).modify 2 fun
      | .cells _ t frozen => .cells #[.iface 180 (.pointer (some ⟨17, 0, none⟩))] t frozen
      | o => o).push (.cells #[.string ⟨#[118, 97, 108, 117, 101, 32, 111, 117, 116, 32, 111, 102, 32, 114, 97, 110, 103, 101]⟩] 182 (0, 0))).push (.cells #[.string ⟨#[105, 110, 118, 97, 108, 105, 100, 32, 115, 121, 110, 116, 97, 120]⟩] 182 (0, 0))) }
theorem laid_met (os : Os) : laidMet Tryz.prog Rows.approxShortsUptoRow.laid ((laidWorld os).forCall (fun _ _ => 0) ⟨#[], #[.float .f64 0], []⟩).memory :=
  laidMet_of_run' 8 (by kernel_rfl) (by kernel_rfl)
theorem reads (os : Os) {H : Type} (enc : TypeId × Value → H) : ∃ places, DataW.whole enc Tryz.prog ((laidWorld os).forCall (fun _ _ => 0) ⟨#[], #[.float .f64 0], []⟩).memory Tryz.f5.params.toList Rows.approxShortsSpec.vars false (#[Value.float .f64 0] : Array Value).toList 8 = some ([.lit (.float .f64 0)], [], places) :=
  ⟨[], by kernel_rfl⟩

set_option maxRecDepth 100000 in
theorem lifted (os : Os) (started : os.Started) (H : Type) (enc : TypeId × Value → H) (F : Stop.Interp) :
    ReturnsInHanded {} Tryz.checked os 5 .any ((Rows.OpenSpec.upto Rows.approxShortsSpec).preRow enc Tryz.prog Tryz.f5 Rows.approxShortsUptoRow.domain false Rows.approxShortsUptoRow.laid) (((Rows.OpenSpec.upto Rows.approxShortsSpec).at F).post enc Tryz.prog Tryz.f5 false true false false) := by
  obtain ⟨places, hx⟩ := reads os enc
  refine returnsInHanded_of_row (C := Tryz.checked) (s := Rows.OpenSpec.upto Rows.approxShortsSpec) own started (by kernel_rfl) Tryz.func5
    (witness_row_atRef (enc := enc) (C := Tryz.checked) false (laidWorld os) #[Value.float .f64 0] rfl (by kernel_rfl) (by kernel_rfl) (by kernel_rfl)
      (OpenSpec.preRow_of_cond 8 hx (by kernel_rfl) (fun k hk => by cases hk; kernel_rfl) (by kernel_rfl) (laid_met os))) ?_
  intro W base args ds gs before hval hW _ hcond _ hL _ _
  exact contract H enc W base args ds gs before hval hW (hcond _ rfl) hL

theorem over : Rows.ApproxShortsUptoSaid :=
  OpenClaim.holds_of_cond 5 Tryz.f5 rfl rfl rfl rfl rfl rfl rfl ⟨rfl, rfl, rfl, rfl, rfl⟩ rfl rfl rfl rfl rfl (by kernel_rfl) Tryz.func5 (by kernel_rfl)
    (of_decide_eq_true (by kernel_rfl)) (by unfold Func.isWrapper; first | (rw [if_pos (by decide +kernel)]; kernel_rfl) | (rw [if_neg (by decide +kernel)]; exact ⟨rfl, rfl⟩))
    (fun os started H enc _ F => by rw [OpenClaim.pre_eq_preRow]; exact lifted os started H enc F)

/-- No parameter wants a stand-in; the program's own looks are off: what the card asks. -/
theorem plain (f : FuncId) (fn : Func) (hf : Tryz.pinned.checked.prog.funcNamed Rows.approxShortsUptoRow.func = some f) (hfn : Tryz.pinned.checked.prog.funcs[f]? = some fn) :
    true = Tryz.pinned.checked.prog.looks [] ∧ ∀ (j : Nat) t, fn.params[j]? = some t → Tryz.pinned.checked.prog.wantsStandIn t = false := by
  obtain rfl : f = 5 := Option.some.inj ((show Tryz.prog.funcNamed Rows.approxShortsUptoRow.func = some 5 by kernel_rfl).symm.trans hf) |>.symm
  obtain rfl : fn = Tryz.f5 := (Option.some.inj (Tryz.func5.symm.trans hfn)).symm
  refine ⟨by kernel_rfl, fun j t ht => ?_⟩
  have h : (Tryz.f5.params.toList.all fun T => !Tryz.prog.wantsStandIn T) = true := by kernel_rfl
  have hm : t ∈ Tryz.f5.params.toList := by simpa using Array.mem_of_getElem? ht
  have := List.all_eq_true.1 h t hm
  have this : Tryz.prog.wantsStandIn t = false := by simpa using this
  exact this

theorem proved : Rows.ApproxShortsUptoCardSaid :=
  Claim7.holds_tied_plain_at .later [] _ _ _ _ over (fun _ h => by cases h) (by kernel_rfl) (fun _ h => by cases h) approxShortsUpto_row_tie rfl ⟨rfl, rfl⟩ (by kernel_rfl) rfl plain (by kernel_rfl)
#print axioms proved

end Go.Proofs.YtedocilafacliaaGreatDoor.rowApproxShorts
