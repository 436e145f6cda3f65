/- DeltaReads: called with any arguments, of at most 1048576 values and letters, the law's function returns true, while the listed package variables hold what the row lists: the card of the second form (Upto). -/
import Derived.Test.YtfalcbkhleobdaaGreatDoorM7
import Derived.Test.YtfalcbkhleobdaaGreatDoorCtm
import Derived.Test.YtfalcbkhleobdaaGreatDoorCards
import Derived.Test.YtfalcbkhleobdaaGreatDoorTie
import Derived.WalkKit
import Derived.ProofKit
import Derived.OpenShut
import Derived.Deep.DeepHandedRow
import Derived.Lib.LaidTab
import Derived.Lib.LaidU8T
import Derived.JoinedCond
namespace Go.Proofs.YtfalcbkhleobdaaGreatDoor.rowDeltaReads
open Go.FK Go.ChangeShapes Go.WideShapes Go.ChangeAt Go.RowKit

theorem own : ownKnob Tryz.prog.godebug = none := by kernel_rfl
theorem laidOut : laidOutB Tryz.prog = true := by kernel_rfl

theorem readable : ∀ T ∈ Tryz.f4.params.toList, Tryz.prog.readableRec T = true ∧ T < Tryz.prog.types.size := by
  have h : (Tryz.f4.params.toList.all fun T => Tryz.prog.readableRec T && decide (T < Tryz.prog.types.size)) = true := by kernel_rfl
  intro T hT
  have h2 := List.all_eq_true.1 h T hT
  simpa using h2

theorem gTab : Tryz.prog.globalNamed "fulcrum/nat.values" = some 0 := by kernel_rfl
theorem gTabType : (Tryz.prog.globals[0]?).map (·.type) = some 127 := by kernel_rfl
theorem cellsArr : Tryz.prog.cellsOf 127 = 55 := by kernel_rfl
theorem cellsEl : Tryz.prog.cellsOf 55 = 1 := by kernel_rfl
theorem table {W : World} (h : laidMetH Tryz.prog Rows.deltaReadsUptoRow.laid W) : Lib.TabIs Tryz.prog W "fulcrum/nat.values" .u32 [0, 1, 2, 3, 4, 5, 6, 7, 8, 9, 99, 99, 99, 99, 99, 99, 99, 99, 99, 99, 99, 99, 99, 99, 99, 99, 99, 99, 99, 99, 99, 99, 99, 99, 99, 99, 99, 99, 99, 99, 99, 99, 99, 99, 99, 99, 99, 99, 99, 10, 11, 12, 13, 14, 15] :=
  Lib.tabIs_of_head gTab gTabType Tryz.underlying127 Tryz.underlying55 cellsEl cellsArr h
theorem types8 : U8Types Tryz.prog Tryz.lays271_ren := { t5 := Tryz.underlying5, t119 := Tryz.underlying149, t138 := Tryz.underlying151, t139 := Tryz.underlying152 }
theorem first_eq : Go.Pinned.utf8First = Lib.firstData := by kernel_rfl
theorem accept_eq : (Rows.laid_unicode_utf8_acceptRanges : DataW Unit) = Lib.acceptData := by kernel_rfl
theorem tabs8 {W : World} (h : laidMetH Tryz.prog Rows.deltaReadsUptoRow.laid W) : Lib.Utf8Tabs 2 3 W := by
  have hL : laidMet Tryz.prog [("fulcrum/nat.values", Rows.laid_fulcrum_nat_values), ("unicode/utf8.acceptRanges", Lib.acceptData), ("unicode/utf8.first", Lib.firstData)] W := by
    rw [← accept_eq, ← first_eq]; exact h
  exact utf8Tabs_of_readsT (ρ := Tryz.lays271_ren) types8 ⟨by kernel_rfl, by kernel_rfl, by kernel_rfl, by kernel_rfl, by kernel_rfl, by kernel_rfl, by kernel_rfl⟩ (Lib.laidMet.reads hL (.tail _ (.tail _ (.head _)))) (Lib.laidMet.reads hL (.tail _ (.head _)))
theorem add_lit0 (g j : Nat) : (⟨g, 0, none⟩ : Addr).add j = ⟨g, j, none⟩ := by unfold Addr.add; split <;> simp_all
theorem gl_of {W : World} (h : laidMetH Tryz.prog Rows.deltaReadsUptoRow.laid W) : Gl (fun _ => False) W := by
  have hT := table h
  have hU := tabs8 h
  have g0 : glob 0 = some (.u32, [0, 1, 2, 3, 4, 5, 6, 7, 8, 9, 99, 99, 99, 99, 99, 99, 99, 99, 99, 99, 99, 99, 99, 99, 99, 99, 99, 99, 99, 99, 99, 99, 99, 99, 99, 99, 99, 99, 99, 99, 99, 99, 99, 99, 99, 99, 99, 99, 99, 10, 11, 12, 13, 14, 15]) := by kernel_rfl
  have g2 : glob 2 = some (.u8, utf8First) := by kernel_rfl
  have g3 : glob 3 = some (.u8, utf8Acc) := by kernel_rfl
  have f2 : ∀ c : Fin 256, utf8First[c.val]? = some ((Lib.firstT c.val : Nat) : Int) := by decide +kernel
  have f3 : ∀ i : Fin 16, utf8Acc[2 * i.val]? = some ((Lib.accLo i.val : Nat) : Int) ∧ utf8Acc[2 * i.val + 1]? = some ((Lib.accHi i.val : Nat) : Int) := by decide +kernel
  have l2 : utf8First.length = 256 := by decide +kernel
  have l3 : utf8Acc.length = 32 := by decide +kernel
  intro g k l hg
  by_cases e0 : g = 0
  · subst e0
    rw [g0] at hg
    simp only [Option.some.injEq, Prod.mk.injEq] at hg
    obtain ⟨rfl, rfl⟩ := hg
    refine ⟨World.block_lt_of_cell? W _ (hT.cell gTab 0 (by decide)), fun h => h, fun j x hx => ?_⟩
    have hj := (List.getElem?_eq_some_iff.1 hx).1
    have := hT.cell gTab j hj
    rw [List.getD_eq_getElem?_getD, hx] at this
    rw [add_lit0]
    exact this
  by_cases e2 : g = 2
  · subst e2
    rw [g2] at hg
    simp only [Option.some.injEq, Prod.mk.injEq] at hg
    obtain ⟨rfl, rfl⟩ := hg
    refine ⟨World.block_lt_of_cell? W _ (hU.1 0 (by omega)), fun h => h, fun j x hx => ?_⟩
    have hj := (List.getElem?_eq_some_iff.1 hx).1
    rw [l2] at hj
    rw [f2 ⟨j, hj⟩] at hx
    rw [add_lit0, ← Option.some.inj hx]
    exact hU.1 j hj
  by_cases e3 : g = 3
  · subst e3
    rw [g3] at hg
    simp only [Option.some.injEq, Prod.mk.injEq] at hg
    obtain ⟨rfl, rfl⟩ := hg
    refine ⟨World.block_lt_of_cell? W _ (hU.2 0 (by omega)).1, fun h => h, fun j x hx => ?_⟩
    have hj := (List.getElem?_eq_some_iff.1 hx).1
    rw [l3] at hj
    rw [add_lit0]
    by_cases hp : j % 2 = 0
    · have ej : j = 2 * (j / 2) := by omega
      rw [ej] at hx ⊢
      rw [(f3 ⟨j / 2, by omega⟩).1] at hx
      rw [← Option.some.inj hx]
      exact (hU.2 (j / 2) (by omega)).1
    · have ej : j = 2 * (j / 2) + 1 := by omega
      rw [ej] at hx ⊢
      rw [(f3 ⟨j / 2, by omega⟩).2] at hx
      rw [← Option.some.inj hx]
      exact (hU.2 (j / 2) (by omega)).2
  · exfalso
    have b0 : (g == 0) = false := by simpa using e0
    have b2 : (g == 2) = false := by simpa using e2
    have b3 : (g == 3) = false := by simpa using e3
    change (bif g == 0 then some _ else bif g == 2 then some _ else bif g == 3 then some _ else none) = some (k, l) at hg
    rw [b0, b2, b3] at hg
    cases hg

set_option maxRecDepth 100000 in
theorem contract (H : Type) (enc : TypeId × Value → H) (W : World) (base : Nat) (args : Array Value) (ds gs : List (DataW H)) (before : List MemPlace)
    (hval : ∀ (j : Nat) t v, Tryz.f4.params[j]? = some t → args[j]? = some v → Value.okWide Tryz.prog W .any base t v)
    (hW : DataW.Whole enc Tryz.prog Tryz.f4.params.toList Rows.deltaReadsSpec.vars false W args.toList ds gs before) (hk : Rows.uptoSmall H (ds ++ gs) = true) (hL : laidMetH Tryz.prog Rows.deltaReadsUptoRow.laid W) :
    Calls Tryz.prog 4 args W fun e W' => ∃ v, e = .returned v ∧ Rows.deltaReadsSpec.post enc Tryz.prog Tryz.f4 false true false false W args v W' := by
  have hW' := hW
  obtain ⟨p, q, hA, hV, rfl, hfz, hnd⟩ := hW
  obtain ⟨rfl, rfl⟩ := trodVars_none hV
  obtain ⟨x, k1, k2, k3⟩ := args_told [.str] Tryz.f4.params.toList args.toList ds p (by kernel_rfl) (fun j T v h1 h2 => hval j T v (Array.getElem?_toList.symm.trans h1) (Array.getElem?_toList.symm.trans h2)) hA
  have hb : Rows.uptoBulkAll ds ≤ 1048576 := by
    have := of_decide_eq_true hk
    simpa using this
  have hx := dreads_math x k2 (Nat.le_trans k3 hb)
  have hlt := fun y hy => hW'.lt y hy
  obtain ⟨d1, rfl⟩ : ∃ d1, ds = [d1] := by
    have h : ds.length = 1 := trodAll_length hA
    match ds, h with
    | [d1], _ => exact ⟨d1, rfl⟩
  simp only [List.append_nil] at hW' hlt
  refine (law_calls (c := Tryz.f4.body.getD .skip) (ps := [.str]) (F := fun k (x : TD [.str]) => law05_DeltaReads.f k x) Tryz.func4 (by kernel_rfl) (by kernel_rfl) (fun k => law05_DeltaReads.c k) hx (gl_of hL) k1).mono fun e W' ⟨he, hbel⟩ => ?_
  subst he
  refine ⟨_, rfl, post_of_below hW' hbel (fun _ _ _ => trodAll_cons_mk (shut_bool Tryz.underlying4 _) trodAll_mk0) (fun sp hsp => ?_) (fun _ => rfl) (ok_one (by kernel_rfl) rfl (okWide_bool_mk Tryz.underlying4 _))⟩
  exact trodAll_later laidOut hbel _ _ _ _ readable hA hlt sp hsp

/-- A world for the witness: the settled one, the listed tables holding what their initialisers lay. -/
noncomputable def laidWorld (os : Os) : World :=
  { World.holding Tryz.prog os ⟨#[], #[], []⟩ with heap := ((((World.holding Tryz.prog os ⟨#[], #[], []⟩).heap.modify 0 fun
      | .cells _ t frozen => .cells #[.int .u32 0, .int .u32 1, .int .u32 2, .int .u32 3, .int .u32 4, .int .u32 5, .int .u32 6, .int .u32 7, .int .u32 8, .int .u32 9, .int .u32 99, .int .u32 99, .int .u32 99, .int .u32 99, .int .u32 99, .int .u32 99, .int .u32 99, .int .u32 99, .int .u32 99, .int .u32 99, .int .u32 99, .int .u32 99, .int .u32 99, .int .u32 99, .int .u32 99, .int .u32 99, .int .u32 99, .int .u32 99, .int .u32 99, .int .u32 99, .int .u32 99, .int .u32 99, .int .u32 99, .int .u32 99, .int .u32 99, .int .u32 99, .int .u32 99, .int .u32 99, .int .u32 99, .int .u32 99, .int .u32 99, .int .u32 99, .int .u32 99, .int .u32 99, .int .u32 99, .int .u32 99, .int .u32 99, .int .u32 99, .int .u32 99, .int .u32 10, .int .u32 11, .int .u32 12, .int .u32 13, .int .u32 14, .int .u32 15] t frozen
      | o => o).modify 3 fun
      | .cells _ t frozen => .cells #[.int .u8 128, .int .u8 191, .int .u8 160, .int .u8 191, .int .u8 128, .int .u8 159, .int .u8 144, .int .u8 191, .int .u8 128, .int .u8 143, .int .u8 0, .int .u8 0, .int .u8 0, .int .u8 0, .int .u8 0, .int .u8 0, .int .u8 0, .int .u8 0, .int .u8 0, .int .u8 0, .int .u8 0, .int .u8 0, .int .u8 0, .int .u8 0, .int .u8 0, .int .u8 0, .int .u8 0, .int .u8 0, .int .u8 0, .int .u8 0, .int .u8 0, .int .u8 0] t frozen
      | o => o).modify 2 fun
      | .cells _ t frozen => .cells (Go.Pinned.utf8FirstZ.map fun z => Value.int .u8 (Int.ofNat z)).toArray t frozen
      | o => o) }
theorem laid_met (os : Os) : laidMet Tryz.prog Rows.deltaReadsUptoRow.laid ((laidWorld os).forCall (fun _ _ => 0) ⟨#[], #[.string ⟨#[]⟩], []⟩).memory :=
  laidMet_of_run' 8 (by kernel_rfl) (by kernel_rfl)
theorem reads (os : Os) {H : Type} (enc : TypeId × Value → H) : ∃ places, DataW.whole enc Tryz.prog ((laidWorld os).forCall (fun _ _ => 0) ⟨#[], #[.string ⟨#[]⟩], []⟩).memory Tryz.f4.params.toList Rows.deltaReadsSpec.vars false (#[Value.string ⟨#[]⟩] : Array Value).toList 8 = some ([.lit (.string [])], [], places) :=
  ⟨[], by kernel_rfl⟩

set_option maxRecDepth 100000 in
theorem lifted (os : Os) (started : os.Started) (H : Type) (enc : TypeId × Value → H) (F : Stop.Interp) :
    ReturnsInHanded {} Tryz.checked os 4 .any ((Rows.OpenSpec.upto Rows.deltaReadsSpec).preRow enc Tryz.prog Tryz.f4 Rows.deltaReadsUptoRow.domain false Rows.deltaReadsUptoRow.laid) (((Rows.OpenSpec.upto Rows.deltaReadsSpec).at F).post enc Tryz.prog Tryz.f4 false true false false) := by
  obtain ⟨places, hx⟩ := reads os enc
  refine returnsInHanded_of_row (C := Tryz.checked) (s := Rows.OpenSpec.upto Rows.deltaReadsSpec) own started (by kernel_rfl) Tryz.func4
    (witness_row_at (enc := enc) (C := Tryz.checked) false (laidWorld os) #[Value.string ⟨#[]⟩] rfl (by kernel_rfl) (by kernel_rfl) (by kernel_rfl)
      (OpenSpec.preRow_of_cond 8 hx (by kernel_rfl) (fun k hk => by cases hk; kernel_rfl) (by kernel_rfl) (laid_met os))) ?_
  intro W base args ds gs before hval hW _ hcond _ hL _ _
  exact contract H enc W base args ds gs before hval hW (hcond _ rfl) hL

theorem over : Rows.DeltaReadsUptoSaid :=
  OpenClaim.holds_of_cond 4 Tryz.f4 rfl rfl rfl rfl rfl rfl rfl ⟨rfl, rfl, rfl, rfl, rfl⟩ rfl rfl rfl rfl rfl (by kernel_rfl) Tryz.func4 (by kernel_rfl)
    (of_decide_eq_true (by kernel_rfl)) (by unfold Func.isWrapper; first | (rw [if_pos (by decide +kernel)]; kernel_rfl) | (rw [if_neg (by decide +kernel)]; exact ⟨rfl, rfl⟩))
    (fun os started H enc _ F => by rw [OpenClaim.pre_eq_preRow]; exact lifted os started H enc F)

/-- No parameter wants a stand-in; the program's own looks are off: what the card asks. -/
theorem plain (f : FuncId) (fn : Func) (hf : Tryz.pinned.checked.prog.funcNamed Rows.deltaReadsUptoRow.func = some f) (hfn : Tryz.pinned.checked.prog.funcs[f]? = some fn) :
    false = Tryz.pinned.checked.prog.looks [] ∧ ∀ (j : Nat) t, fn.params[j]? = some t → Tryz.pinned.checked.prog.wantsStandIn t = false := by
  obtain rfl : f = 4 := Option.some.inj ((show Tryz.prog.funcNamed Rows.deltaReadsUptoRow.func = some 4 by kernel_rfl).symm.trans hf) |>.symm
  obtain rfl : fn = Tryz.f4 := (Option.some.inj (Tryz.func4.symm.trans hfn)).symm
  refine ⟨by kernel_rfl, fun j t ht => ?_⟩
  have h : (Tryz.f4.params.toList.all fun T => !Tryz.prog.wantsStandIn T) = true := by kernel_rfl
  have hm : t ∈ Tryz.f4.params.toList := by simpa using Array.mem_of_getElem? ht
  have := List.all_eq_true.1 h t hm
  have this : Tryz.prog.wantsStandIn t = false := by simpa using this
  exact this

theorem proved : Rows.DeltaReadsUptoCardSaid :=
  Claim7.holds_tied_plain_at .later [] _ _ _ _ over (fun _ h => by cases h) (by kernel_rfl) (fun _ h => by cases h) deltaReadsUpto_row_tie rfl ⟨rfl, rfl⟩ (by kernel_rfl) rfl plain (by kernel_rfl)
#print axioms proved

end Go.Proofs.YtfalcbkhleobdaaGreatDoor.rowDeltaReads
