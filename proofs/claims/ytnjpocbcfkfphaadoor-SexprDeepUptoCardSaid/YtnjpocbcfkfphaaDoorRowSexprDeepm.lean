/- SexprDeep: called with any arguments, of at most 1048576 values and letters, the law's function returns true, while the listed package variables hold what the row lists: the card of the second form (Upto). -/
import Derived.Test.YtnjpocbcfkfphaaDoorM3
import Derived.Test.YtnjpocbcfkfphaaDoorCtm
import Derived.Test.YtnjpocbcfkfphaaDoorCards
import Derived.Test.YtnjpocbcfkfphaaDoorTie
import Derived.WalkKit
import Derived.ProofKit
import Derived.OpenShut
import Derived.Deep.DeepHandedRow
import Derived.Lib.LaidTab
import Derived.JoinedCond
namespace Go.Proofs.YtnjpocbcfkfphaaDoor.rowSexprDeep
open Go.FK Go.ChangeShapes Go.WideShapes Go.ChangeAt Go.RowKit

theorem own : ownKnob Tryd.prog.godebug = none := by kernel_rfl
theorem laidOut : laidOutB Tryd.prog = true := by kernel_rfl

theorem readable : ∀ T ∈ Tryd.f4.params.toList, Tryd.prog.readableRec T = true ∧ T < Tryd.prog.types.size := by
  have h : (Tryd.f4.params.toList.all fun T => Tryd.prog.readableRec T && decide (T < Tryd.prog.types.size)) = true := by kernel_rfl
  intro T hT
  have h2 := List.all_eq_true.1 h T hT
  simpa using h2

theorem gl_of {W : World} (_h : laidMetH Tryd.prog Rows.sexprDeepUptoRow.laid W) (hsh : W.ShapedOpen Tryd.prog) : Gl (fun _ => False) W := by
  refine ⟨?_, fun g hg => by
    simp only [varL, List.mem_singleton] at hg
    subst hg
    obtain ⟨m, hm⟩ := shaped_maxLen W hsh
    exact ⟨World.block_lt_of_cell? W _ hm, fun h => h, m, hm⟩⟩
  intro g k l hg
  cases hg

set_option maxRecDepth 100000 in
theorem contract (H : Type) (enc : TypeId × Value → H) (W : World) (base : Nat) (args : Array Value) (ds gs : List (DataW H)) (before : List MemPlace)
    (hval : ∀ (j : Nat) t v, Tryd.f4.params[j]? = some t → args[j]? = some v → Value.okWide Tryd.prog W .any base t v)
    (hW : DataW.Whole enc Tryd.prog Tryd.f4.params.toList Rows.sexprDeepSpec.vars false W args.toList ds gs before) (hk : Rows.uptoSmall H (ds ++ gs) = true) (hL : laidMetH Tryd.prog Rows.sexprDeepUptoRow.laid W) (hsh : W.ShapedOpen Tryd.prog) :
    Calls Tryd.prog 4 args W fun e W' => ∃ v, e = .returned v ∧ Rows.sexprDeepSpec.post enc Tryd.prog Tryd.f4 false true false false W args v W' := by
  have hW' := hW
  obtain ⟨p, q, hA, hV, rfl, hfz, hnd⟩ := hW
  obtain ⟨rfl, rfl⟩ := trodVars_none hV
  obtain ⟨x, k1, k2, k3⟩ := args_told [(.int .u16), .str] Tryd.f4.params.toList args.toList ds p (by kernel_rfl) (fun j T v h1 h2 => hval j T v (Array.getElem?_toList.symm.trans h1) (Array.getElem?_toList.symm.trans h2)) hA
  have hb : Rows.uptoBulkAll ds ≤ 1048576 := by
    have := of_decide_eq_true hk
    simpa using this
  have hx := sdeep_math x k2 (Nat.le_trans k3 hb)
  have hlt := fun y hy => hW'.lt y hy
  obtain ⟨d1, d2, rfl⟩ : ∃ d1 d2, ds = [d1, d2] := by
    have h : ds.length = 2 := trodAll_length hA
    match ds, h with
    | [d1, d2], _ => exact ⟨d1, d2, rfl⟩
  simp only [List.append_nil] at hW' hlt
  refine (law_calls (c := Tryd.f4.body.getD .skip) (ps := [(.int .u16), .str]) (F := fun k (x : TD [(.int .u16), .str]) => law13_SexprDeep.f k x.1 x.2) Tryd.func4 (by kernel_rfl) (by kernel_rfl) (fun k => law13_SexprDeep.c k) hx (gl_of hL hsh) k1).mono fun e W' ⟨he, hbel⟩ => ?_
  subst he
  refine ⟨_, rfl, post_of_below hW' hbel (fun _ _ _ => trodAll_cons_mk (shut_bool Tryd.underlying4 _) trodAll_mk0) (fun sp hsp => ?_) (fun _ => rfl) (ok_one (by kernel_rfl) rfl (okWide_bool_mk Tryd.underlying4 _))⟩
  exact trodAll_later laidOut hbel _ _ _ _ readable hA hlt sp hsp

/-- A world for the witness: the settled one, the listed tables holding what their initialisers lay. -/
noncomputable def laidWorld (os : Os) : World :=
  { World.holding Tryd.prog os ⟨#[], #[], []⟩ with heap := (((World.holding Tryd.prog os ⟨#[], #[], []⟩).heap.modify 2 fun
      | .cells _ t frozen => .cells #[.int .u8 128, .int .u8 191, .int .u8 160, .int .u8 191, .int .u8 128, .int .u8 159, .int .u8 144, .int .u8 191, .int .u8 128, .int .u8 143, .int .u8 0, .int .u8 0, .int .u8 0, .int .u8 0, .int .u8 0, .int .u8 0, .int .u8 0, .int .u8 0, .int .u8 0, .int .u8 0, .int .u8 0, .int .u8 0, .int .u8 0, .int .u8 0, .int .u8 0, .int .u8 0, .int .u8 0, .int .u8 0, .int .u8 0, .int .u8 0, .int .u8 0, .int .u8 0] t frozen
      | o => o).modify 1 fun
      | .cells _ t frozen => .cells (Go.Pinned.utf8FirstZ.map fun z => Value.int .u8 (Int.ofNat z)).toArray t frozen
      | o => o) }
theorem laid_met (os : Os) : laidMet Tryd.prog Rows.sexprDeepUptoRow.laid ((laidWorld os).forCall (fun _ _ => 0) ⟨#[], #[.int .u16 0, .string ⟨#[]⟩], []⟩).memory :=
  laidMet_of_run' 8 (by kernel_rfl) (by kernel_rfl)
theorem reads (os : Os) {H : Type} (enc : TypeId × Value → H) : ∃ places, DataW.whole enc Tryd.prog ((laidWorld os).forCall (fun _ _ => 0) ⟨#[], #[.int .u16 0, .string ⟨#[]⟩], []⟩).memory Tryd.f4.params.toList Rows.sexprDeepSpec.vars false (#[Value.int .u16 0, Value.string ⟨#[]⟩] : Array Value).toList 8 = some ([.lit (.int .u16 0), .lit (.string [])], [], places) :=
  ⟨[], by kernel_rfl⟩

set_option maxRecDepth 100000 in
theorem lifted (os : Os) (started : os.Started) (H : Type) (enc : TypeId × Value → H) (F : Stop.Interp) :
    ReturnsInHanded {} Tryd.checked os 4 .any ((Rows.OpenSpec.upto Rows.sexprDeepSpec).preRow enc Tryd.prog Tryd.f4 Rows.sexprDeepUptoRow.domain false Rows.sexprDeepUptoRow.laid) (((Rows.OpenSpec.upto Rows.sexprDeepSpec).at F).post enc Tryd.prog Tryd.f4 false true false false) := by
  obtain ⟨places, hx⟩ := reads os enc
  refine returnsInHanded_of_row (C := Tryd.checked) (s := Rows.OpenSpec.upto Rows.sexprDeepSpec) own started (by kernel_rfl) Tryd.func4
    (witness_row_at (enc := enc) (C := Tryd.checked) false (laidWorld os) #[Value.int .u16 0, Value.string ⟨#[]⟩] rfl (by kernel_rfl) (by kernel_rfl) (by kernel_rfl)
      (OpenSpec.preRow_of_cond 8 hx (by kernel_rfl) (fun k hk => by cases hk; kernel_rfl) (by kernel_rfl) (laid_met os))) ?_
  intro W base args ds gs before hval hW _ hcond _ hL hsh _
  exact contract H enc W base args ds gs before hval hW (hcond _ rfl) hL hsh

theorem over : Rows.SexprDeepUptoSaid :=
  OpenClaim.holds_of_cond 4 Tryd.f4 rfl rfl rfl rfl rfl rfl rfl ⟨rfl, rfl, rfl, rfl, rfl⟩ rfl rfl rfl rfl rfl (by kernel_rfl) Tryd.func4 (by kernel_rfl)
    (of_decide_eq_true (by kernel_rfl)) (by unfold Func.isWrapper; first | (rw [if_pos (by decide +kernel)]; kernel_rfl) | (rw [if_neg (by decide +kernel)]; exact ⟨rfl, rfl⟩))
    (fun os started H enc _ F => by rw [OpenClaim.pre_eq_preRow]; exact lifted os started H enc F)

/-- No parameter wants a stand-in; the program's own looks are off: what the card asks. -/
theorem plain (f : FuncId) (fn : Func) (hf : Tryd.pinned.checked.prog.funcNamed Rows.sexprDeepUptoRow.func = some f) (hfn : Tryd.pinned.checked.prog.funcs[f]? = some fn) :
    true = Tryd.pinned.checked.prog.looks [] ∧ ∀ (j : Nat) t, fn.params[j]? = some t → Tryd.pinned.checked.prog.wantsStandIn t = false := by
  obtain rfl : f = 4 := Option.some.inj ((show Tryd.prog.funcNamed Rows.sexprDeepUptoRow.func = some 4 by kernel_rfl).symm.trans hf) |>.symm
  obtain rfl : fn = Tryd.f4 := (Option.some.inj (Tryd.func4.symm.trans hfn)).symm
  refine ⟨by kernel_rfl, fun j t ht => ?_⟩
  have h : (Tryd.f4.params.toList.all fun T => !Tryd.prog.wantsStandIn T) = true := by kernel_rfl
  have hm : t ∈ Tryd.f4.params.toList := by simpa using Array.mem_of_getElem? ht
  have := List.all_eq_true.1 h t hm
  have this : Tryd.prog.wantsStandIn t = false := by simpa using this
  exact this

theorem proved : Rows.SexprDeepUptoCardSaid :=
  Claim7.holds_tied_plain_at .later [] _ _ _ _ over (fun _ h => by cases h) (by kernel_rfl) (fun _ h => by cases h) sexprDeepUpto_row_tie rfl ⟨rfl, rfl⟩ (by kernel_rfl) rfl plain (by kernel_rfl)
#print axioms proved

end Go.Proofs.YtnjpocbcfkfphaaDoor.rowSexprDeep
