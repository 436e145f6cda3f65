/- ratio.parts itself: a closure over a new variable that holds the number. -/
import Derived.Test.YtllpdchpjhgkgaaGreatDoorItm
namespace Go.FK
open Go.RowKit Go.Proofs

theorem enters {P : Program} {f : FuncId} {fn : Func} {c : Code} (hf : P.funcs[f]? = some fn) (hb : fn.body = some c) (hn : (fn.name == "runtime.NumGoroutine") = false) : ∀ args w, (callFunc f args).run P w = .ok (.enter f args) w := by
  intro args w
  have h : ¬ fn.name = "runtime.NumGoroutine" := by simpa using hn
  simp [callFunc, hf, h, hb]

section
variable {fl : Nat → PQ → Option PZ} {fo : Nat → PZ → Option PQ} {fs : Nat → PQ × PQ → Option PQ} {fi : Nat → PQ → Option (PQ × Int)}

def paEnd (e : Exit) (s : St) : Option PQ := match e with
  | .ret => match nthD .bad s.fr 2 with
    | .clo f id => match nthD none s.obs id with
      | some ⟨e', .st (.pair (.st (.pair .bool (.list (.int .u32)))) (.list (.int .u32))), [y]⟩ => if e' = 27 ∧ f = 53 then some y else none
      | _ => none
    | _ => none
  | _ => none
theorem paEnd_some {e : Exit} {s : St} {y : PQ} (h : paEnd e s = some y) : e = .ret ∧ ∃ id, nthD .bad s.fr 2 = .clo 53 id ∧ nthD none s.obs id = some ⟨27, ptQ, [y]⟩ := by
  cases e with
  | ret =>
    refine ⟨rfl, ?_⟩
    unfold paEnd at h
    simp only at h
    split at h
    · rename_i f id h1
      split at h
      · rename_i e' z h2
        split at h
        · rename_i he
          obtain ⟨rfl, rfl⟩ := he
          cases h
          exact ⟨id, h1, h2⟩
        · cases h
      · cases h
    · cases h
  | _ => cases h
theorem paRun (x : PQ) : codeK (ptE fl fo fs fi PQ 0) 0 (Tryz.f21.body.getD .skip) (entry 4 [⟨ptQ, x⟩]) paEnd = some x := by kernel_rfl
theorem paBody : Tryz.f21.body = some (Tryz.f21.body.getD .skip) := by kernel_rfl

theorem parts_do (hc : PtCalls fl fo fs fi) (x : PQ) (M : Nat → Prop) (w : World) (v : Value) (hM : ∀ b, M b → b < w.heap.size) (hgl : Gl M w) (hv : RepV M w ptQ x v) :
    Calls Tryz.prog 21 #[v] w fun e w' => ∃ B c, e = .returned (.func (.func 53) #[] #[.pointer (some ⟨B, 0, none⟩)]) ∧ w.heap.size ≤ B ∧ ObIn (fun b => M b ∨ b = B) w' (.slice (some ⟨B, 0, none⟩) 1 c) ⟨27, ptQ, [x]⟩ ∧ Below w.heap.size w w' := by
  have hm := entry_matches (nt := 4) hM hgl (ds := [⟨ptQ, x⟩]) (vs := [v]) ⟨hv, trivial⟩ (by show 1 ≤ 4; decide)
  refine calls_of_wp Tryz.func21 paBody ?_
  refine codeK_sound ptTy (ptFnsOk hc _ 0) ptMix.1 _ 0 _ _ _ _ _ (paRun x) (by kernel_rfl) (fun p s a w _ hk _ => by cases hk) (fun e s a w' he hm' => ?_) hm
  obtain ⟨rfl, id, h1, h2⟩ := paEnd_some he
  obtain ⟨k1, k2, k3, hn3, ν, hw, hg, hr⟩ := hm'
  have hr2 := hr 2
  rw [h1] at hr2
  have h2' : obF s.obs id = some ⟨27, ptQ, [x]⟩ := h2
  obtain ⟨_, hr2⟩ := hr2
  obtain ⟨_, g, n, c, e1, e2⟩ := hr2 _ h2'
  obtain ⟨q1, q2, xs, q3, q4⟩ := hg.ob id _ h2'
  rw [e1] at q3
  have hn : n = 1 := by
    obtain ⟨A, c', h⟩ := q3.1.slice
    cases h
    rfl
  subst hn
  have hgb := q3.2 g rfl
  have hres : (results Tryz.f21 a.tmps).run Tryz.prog w' = .ok (a.tmps.getD 2 undef) w' := results_tmp (by kernel_rfl) _ _ _
  refine ⟨k1, _, hres, g, c, by rw [e2], hgb, ⟨rfl, q2, xs, q3.1.1 rfl, q4.next (Agree.refl _ _) (fun b _ hb => ?_)⟩, k2.below⟩
  rcases hb with hb | rfl
  · exact .inl hb
  · exact .inr ⟨id, _, h2', by rw [e1]; rfl⟩
end
end Go.FK
