/- ApproxSpans: called with any arguments, of at most 1048576 values and letters, the law's function returns true. Condition: the size, as the given statement has it (Upto). -/
import Derived.Test.YtaggjlegalmiaaaGreatM6
import Derived.Test.YtaggjlegalmiaaaGreatCtm
import Derived.Test.YtaggjlegalmiaaaGreatRows
import Derived.WalkKit
import Derived.ProofKit
import Derived.OpenShut
import Derived.JoinedCond
namespace Go.Proofs.YtaggjlegalmiaaaGreat.rowApproxSpans
open Go.FK Go.ChangeShapes Go.WideShapes Go.ChangeAt Go.RowKit

theorem own : ownKnob Tryz.prog.godebug = none := by kernel_rfl
theorem laidOut : laidOutB Tryz.prog = true := by kernel_rfl

def tys : List Ty := [(.st (.pair .flt .flt)), (.st (.pair .flt .flt))]

theorem readable : ∀ T ∈ Tryz.f4.params.toList, Tryz.prog.readableRec T = true ∧ T < Tryz.prog.types.size := by
  have h : (Tryz.f4.params.toList.all fun T => Tryz.prog.readableRec T && decide (T < Tryz.prog.types.size)) = true := by kernel_rfl
  intro T hT
  have h2 := List.all_eq_true.1 h T hT
  simpa using h2

set_option maxRecDepth 100000 in
theorem contract (H : Type) (enc : TypeId × Value → H) (W : World) (base : Nat) (args : Array Value) (ds gs : List (DataW H)) (before : List MemPlace)
    (hval : ∀ (j : Nat) t v, Tryz.f4.params[j]? = some t → args[j]? = some v → Value.okWide Tryz.prog W .any base t v)
    (hW : DataW.Whole enc Tryz.prog Tryz.f4.params.toList Rows.approxSpansSpec.vars false W args.toList ds gs before) (hk : Rows.uptoSmall H (ds ++ gs) = true) :
    Calls Tryz.prog 4 args W fun e W' => ∃ v, e = .returned v ∧ Rows.approxSpansSpec.post enc Tryz.prog Tryz.f4 false true false false W args v W' := by
  have hW' := hW
  obtain ⟨p, q, hA, hV, rfl, hfz, hnd⟩ := hW
  obtain ⟨rfl, rfl⟩ := trodVars_none hV
  obtain ⟨x, k1, k2, k3⟩ := args_told [(.st (.pair .flt .flt)), (.st (.pair .flt .flt))] Tryz.f4.params.toList args.toList ds p (by kernel_rfl) (fun j T v h1 h2 => hval j T v (Array.getElem?_toList.symm.trans h1) (Array.getElem?_toList.symm.trans h2)) hA
  have hb : Rows.uptoBulkAll ds ≤ 1048576 := by
    have := of_decide_eq_true hk
    simpa using this
  have hx := spans_math x k2 (Nat.le_trans k3 hb)
  have hlt := fun y hy => hW'.lt y hy
  obtain ⟨d1, d2, rfl⟩ : ∃ d1 d2, ds = [d1, d2] := by
    have h : ds.length = 2 := trodAll_length hA
    match ds, h with
    | [d1, d2], _ => exact ⟨d1, d2, rfl⟩
  simp only [List.append_nil] at hW' hlt
  refine (law_calls (c := Tryz.f4.body.getD .skip) (ps := [(.st (.pair .flt .flt)), (.st (.pair .flt .flt))]) (F := fun k (x : TD [(.st (.pair .flt .flt)), (.st (.pair .flt .flt))]) => law04_ApproxSpans.f k x.1 x.2) Tryz.func4 (by kernel_rfl) (by kernel_rfl) (fun k => law04_ApproxSpans.c k) hx (fun g k l h => by cases h) k1).mono fun e W' ⟨he, hbel⟩ => ?_
  subst he
  refine ⟨_, rfl, post_of_below hW' hbel (fun _ _ _ => trodAll_cons_mk (shut_bool Tryz.underlying4 _) trodAll_mk0) (fun sp hsp => ?_) (fun _ => rfl) (ok_one (by kernel_rfl) rfl (okWide_bool_mk Tryz.underlying4 _))⟩
  exact trodAll_later laidOut hbel _ _ _ _ readable hA hlt sp hsp

set_option maxRecDepth 100000 in
theorem lifted (os : Os) (started : os.Started) (H : Type) (enc : TypeId × Value → H) (F : Stop.Interp) :
    ReturnsInHanded {} Tryz.checked os 4 .any ((Rows.OpenSpec.upto Rows.approxSpansSpec).pre6 enc Tryz.prog Tryz.f4 Rows.approxSpansUptoRow.domain false) (((Rows.OpenSpec.upto Rows.approxSpansSpec).at F).post enc Tryz.prog Tryz.f4 false true false false) := by
  refine returnsInHanded_of_cond (C := Tryz.checked) (s := Rows.OpenSpec.upto Rows.approxSpansSpec) (k := Rows.uptoSmall) rfl own started (by kernel_rfl) Tryz.func4
    (OpenSpec.witness (enc := enc) (C := Tryz.checked) (s := Rows.OpenSpec.upto Rows.approxSpansSpec) (k := Rows.uptoSmall) rfl false ⟨#[], #[.agg #[.float .f64 0, .float .f64 0], .agg #[.float .f64 0, .float .f64 0]], []⟩ 8 (by kernel_rfl) (by kernel_rfl) (by kernel_rfl)
      (x := ([.agg [.lit (.float .f64 0), .lit (.float .f64 0)], .agg [.lit (.float .f64 0), .lit (.float .f64 0)]], [], [])) (by kernel_rfl) rfl (by kernel_rfl)) ?_
  intro W base args ds gs before hval hW _ hk _
  exact contract H enc W base args ds gs before hval hW hk

theorem over : Rows.approxSpansUptoRow.holds Tryz.pinned (Rows.OpenSpec.upto Rows.approxSpansSpec) :=
  OpenClaim.holds_of_cond 4 Tryz.f4 rfl rfl rfl rfl rfl rfl rfl ⟨rfl, rfl, rfl, rfl, rfl⟩ rfl rfl rfl rfl rfl (by kernel_rfl) Tryz.func4 (by kernel_rfl)
    (of_decide_eq_true (by kernel_rfl)) (by unfold Func.isWrapper; first | (rw [if_pos (by decide +kernel)]; kernel_rfl) | (rw [if_neg (by decide +kernel)]; exact ⟨rfl, rfl⟩))
    (fun os started H enc _ F => lifted os started H enc F)

theorem proved : Rows.ApproxSpansUptoSaid := over
#print axioms proved

end Go.Proofs.YtaggjlegalmiaaaGreat.rowApproxSpans
