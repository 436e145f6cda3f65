/- RatioFractions: called with any arguments, of at most 1048576 values and letters, the law's function returns true. Condition: the size, as the given statement has it (Upto). -/
import Derived.Test.YtllpdchpjhgkgaaM3
import Derived.Test.YtllpdchpjhgkgaaCtm
import Derived.Test.YtllpdchpjhgkgaaRows
import Derived.WalkKit
import Derived.ProofKit
import Derived.OpenShut
import Derived.JoinedCond
namespace Go.Proofs.Ytllpdchpjhgkgaa.rowRatioFractions
open Go.FK Go.ChangeShapes Go.WideShapes Go.ChangeAt Go.RowKit

theorem own : ownKnob Try.prog.godebug = none := by kernel_rfl
theorem laidOut : laidOutB Try.prog = true := by kernel_rfl

def tys : List Ty := [(.st (.pair (.st (.pair .bool (.list (.int .u32)))) (.list (.int .u32))))]

theorem readable : ∀ T ∈ Try.f3.params.toList, Try.prog.readableRec T = true ∧ T < Try.prog.types.size := by
  have h : (Try.f3.params.toList.all fun T => Try.prog.readableRec T && decide (T < Try.prog.types.size)) = true := by kernel_rfl
  intro T hT
  have h2 := List.all_eq_true.1 h T hT
  simpa using h2

set_option maxRecDepth 100000 in
theorem contract (H : Type) (enc : TypeId × Value → H) (W : World) (base : Nat) (args : Array Value) (ds gs : List (DataW H)) (before : List MemPlace)
    (hval : ∀ (j : Nat) t v, Try.f3.params[j]? = some t → args[j]? = some v → Value.okWide Try.prog W .any base t v)
    (hW : DataW.Whole enc Try.prog Try.f3.params.toList Rows.ratioFractionsSpec.vars false W args.toList ds gs before) (hk : Rows.uptoSmall H (ds ++ gs) = true) :
    Calls Try.prog 3 args W fun e W' => ∃ v, e = .returned v ∧ Rows.ratioFractionsSpec.post enc Try.prog Try.f3 false true false false W args v W' := by
  have hW' := hW
  obtain ⟨p, q, hA, hV, rfl, hfz, hnd⟩ := hW
  obtain ⟨rfl, rfl⟩ := trodVars_none hV
  obtain ⟨x, k1, k2, k3⟩ := args_told [(.st (.pair (.st (.pair .bool (.list (.int .u32)))) (.list (.int .u32))))] Try.f3.params.toList args.toList ds p (by kernel_rfl) (fun j T v h1 h2 => hval j T v (Array.getElem?_toList.symm.trans h1) (Array.getElem?_toList.symm.trans h2)) hA
  have hb : Rows.uptoBulkAll ds ≤ 1048576 := by
    have := of_decide_eq_true hk
    simpa using this
  have hx := fractions_math x k2 (Nat.le_trans k3 hb)
  have hlt := fun y hy => hW'.lt y hy
  obtain ⟨d1, rfl⟩ : ∃ d1, ds = [d1] := by
    have h : ds.length = 1 := trodAll_length hA
    match ds, h with
    | [d1], _ => exact ⟨d1, rfl⟩
  simp only [List.append_nil] at hW' hlt
  refine (law_calls (c := Try.f3.body.getD .skip) (ps := [(.st (.pair (.st (.pair .bool (.list (.int .u32)))) (.list (.int .u32))))]) (F := fun k (x : TD [(.st (.pair (.st (.pair .bool (.list (.int .u32)))) (.list (.int .u32))))]) => law03_RatioFractions.f k x) Try.func3 (by kernel_rfl) (by kernel_rfl) (fun k => law03_RatioFractions.c k) hx ⟨fun _ _ _ h => (by cases h), fun _ h => (by cases h)⟩ k1).mono fun e W' ⟨he, hbel⟩ => ?_
  subst he
  refine ⟨_, rfl, post_of_below hW' hbel (fun _ _ _ => trodAll_cons_mk (shut_bool Try.underlying4 _) trodAll_mk0) (fun sp hsp => ?_) (fun _ => rfl) (ok_one (by kernel_rfl) rfl (okWide_bool_mk Try.underlying4 _))⟩
  exact trodAll_later laidOut hbel _ _ _ _ readable hA hlt sp hsp

set_option maxRecDepth 100000 in
theorem lifted (os : Os) (started : os.Started) (H : Type) (enc : TypeId × Value → H) (F : Stop.Interp) :
    ReturnsInHanded {} Try.checked os 3 .any ((Rows.OpenSpec.upto Rows.ratioFractionsSpec).pre6 enc Try.prog Try.f3 Rows.ratioFractionsUptoRow.domain false) (((Rows.OpenSpec.upto Rows.ratioFractionsSpec).at F).post enc Try.prog Try.f3 false true false false) := by
  refine returnsInHanded_of_cond (C := Try.checked) (s := Rows.OpenSpec.upto Rows.ratioFractionsSpec) (k := Rows.uptoSmall) rfl own started (by kernel_rfl) Try.func3
    (OpenSpec.witness (enc := enc) (C := Try.checked) (s := Rows.OpenSpec.upto Rows.ratioFractionsSpec) (k := Rows.uptoSmall) rfl false ⟨#[], #[.agg #[.bool false, .slice none 0 0, .slice none 0 0]], []⟩ 8 (by kernel_rfl) (by kernel_rfl) (by kernel_rfl)
      (x := ([.agg [.agg [.lit (.bool false), .nil], .nil]], [], [])) (by kernel_rfl) rfl (by kernel_rfl)) ?_
  intro W base args ds gs before hval hW _ hk _
  exact contract H enc W base args ds gs before hval hW hk

theorem over : Rows.ratioFractionsUptoRow.holds Try.pinned (Rows.OpenSpec.upto Rows.ratioFractionsSpec) :=
  OpenClaim.holds_of_cond 3 Try.f3 rfl rfl rfl rfl rfl rfl rfl ⟨rfl, rfl, rfl, rfl, rfl⟩ rfl rfl rfl rfl rfl (by kernel_rfl) Try.func3 (by kernel_rfl)
    (of_decide_eq_true (by kernel_rfl)) (by unfold Func.isWrapper; first | (rw [if_pos (by decide +kernel)]; kernel_rfl) | (rw [if_neg (by decide +kernel)]; exact ⟨rfl, rfl⟩))
    (fun os started H enc _ F => lifted os started H enc F)

theorem proved : Rows.RatioFractionsUptoSaid := over
#print axioms proved

end Go.Proofs.Ytllpdchpjhgkgaa.rowRatioFractions
