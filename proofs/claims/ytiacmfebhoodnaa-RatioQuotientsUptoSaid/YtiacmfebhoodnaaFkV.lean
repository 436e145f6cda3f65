/- A function's contract, from its equations. -/
import Derived.Test.YtiacmfebhoodnaaFkU
namespace Go.FK
open Go.RowKit

variable {P : Program}

/-! ### Tables -/
def lookT : List (TypeId × TI) → TypeId → Option TI
  | [], _ => none
  | (T, ti) :: l, U => bif U == T then some ti else lookT l U
def lookF : List (FuncId × FS) → FuncId → Option FS
  | [], _ => none
  | (f, fs) :: l, g => bif g == f then some fs else lookF l g
structure Pt (X : Type) where
  p : Nat
  sig : PSig
  f : Nat → TD sig.tys → Option X
def lookP {X : Type} (k : Nat) : List (Pt X) → Nat → Option ((s : PSig) × (TD s.tys → Option X))
  | [], _ => none
  | q :: l, p => bif p == q.p then some ⟨q.sig, q.f k⟩ else lookP k l p

def lookW : List (FuncId × FW) → FuncId → Option FW
  | [], _ => none
  | (f, fs) :: l, g => bif g == f then some fs else lookW l g
def lookG : List (FuncId × FG) → FuncId → Option FG
  | [], _ => none
  | (f, fs) :: l, g => bif g == f then some fs else lookG l g

def mkE {X : Type} (tys : List (TypeId × TI)) (fns : Nat → List (FuncId × FS)) (fgs : Nat → List (FuncId × FG)) (fws : Nat → List (FuncId × FW)) (pts : List (Pt X)) (k : Nat) : Env X := ⟨lookT tys, lookF (fns k), lookG (fgs k), lookW (fws k), lookP k pts⟩

def tysB (P : Program) : List (TypeId × TI) → Bool
  | [] => true
  | (T, ti) :: l => tyB P T ti && tysB P l

theorem tysB_ok : ∀ {l : List (TypeId × TI)}, tysB P l = true → ∀ T ti, lookT l T = some ti → TyOk P T ti
  | [], _, T, ti, h => by cases h
  | (U, u) :: l, hb, T, ti, h => by
    simp only [tysB, Bool.and_eq_true] at hb
    simp only [lookT] at h
    cases he : T == U
    · rw [he] at h
      exact tysB_ok hb.2 T ti h
    · rw [he] at h
      simp only [cond_true, Option.some.injEq] at h
      subst h
      rw [show T = U by simpa using he]
      exact tyB_ok hb.1

def AllF (P : Program) : List (FuncId × FS) → Prop
  | [] => True
  | (f, fs) :: l => Contract P f fs ∧ AllF P l

theorem lookF_ok : ∀ {l : List (FuncId × FS)}, AllF P l → ∀ f fs, lookF l f = some fs → Contract P f fs
  | [], _, f, fs, h => by cases h
  | (g, gs) :: l, hb, f, fs, h => by
    simp only [lookF] at h
    cases he : f == g
    · rw [he] at h
      exact lookF_ok hb.2 f fs h
    · rw [he] at h
      simp only [cond_true, Option.some.injEq] at h
      subst h
      rw [show f = g by simpa using he]
      exact hb.1

def AllG (P : Program) : List (FuncId × FG) → Prop
  | [] => True
  | (f, fs) :: l => ContractG P f fs ∧ AllG P l

theorem lookG_ok : ∀ {l : List (FuncId × FG)}, AllG P l → ∀ f fs, lookG l f = some fs → ContractG P f fs
  | [], _, f, fs, h => by cases h
  | (g, gs) :: l, hb, f, fs, h => by
    simp only [lookG] at h
    cases he : f == g
    · rw [he] at h
      exact lookG_ok hb.2 f fs h
    · rw [he] at h
      simp only [cond_true, Option.some.injEq] at h
      subst h
      rw [show f = g by simpa using he]
      exact hb.1

def AllW (P : Program) : List (FuncId × FW) → Prop
  | [] => True
  | (f, fs) :: l => ContractW P f fs ∧ AllW P l

theorem lookW_ok : ∀ {l : List (FuncId × FW)}, AllW P l → ∀ f fs, lookW l f = some fs → ContractW P f fs
  | [], _, f, fs, h => by cases h
  | (g, gs) :: l, hb, f, fs, h => by
    simp only [lookW] at h
    cases he : f == g
    · rw [he] at h
      exact lookW_ok hb.2 f fs h
    · rw [he] at h
      simp only [cond_true, Option.some.injEq] at h
      subst h
      rw [show f = g by simpa using he]
      exact hb.1

def AllK (P : Program) (a : List (FuncId × FS)) (b : List (FuncId × FG)) (c : List (FuncId × FW)) : Prop := AllF P a ∧ AllG P b ∧ AllW P c

/-- Every point's function is what the interpreter finds from there on. -/
def PtsOk {X : Type} (E : Nat → Env X) (io n : Nat) (endf : Exit → St → Option X) (c : Code) : List (Pt X) → Prop
  | [] => True
  | q :: l => ((decide (io ≤ q.sig.io) && decide (q.sig.io ≤ q.sig.objs.length)) = true ∧ (∀ x, q.f 0 x = none) ∧ ∀ k x, fromK (E k) q.p 0 c (unpack q.sig n (encT q.sig.tys x)) endf = q.f (k + 1) x) ∧ PtsOk E io n endf c l

theorem lookP_ok {X : Type} {E : Nat → Env X} {io n : Nat} {endf : Exit → St → Option X} {c : Code} : ∀ {l : List (Pt X)}, PtsOk E io n endf c l → ∀ k p sig g, lookP k l p = some ⟨sig, g⟩ →
    (io ≤ sig.io ∧ sig.io ≤ sig.objs.length) ∧ ∀ x, (k = 0 → g x = none) ∧ ∀ j, k = j + 1 → fromK (E j) p 0 c (unpack sig n (encT sig.tys x)) endf = g x
  | [], _, k, p, sig, g, h => by cases h
  | q :: l, hb, k, p, sig, g, h => by
    simp only [lookP] at h
    cases he : p == q.p
    · rw [he] at h
      exact lookP_ok hb.2 k p sig g h
    · rw [he] at h
      simp only [cond_true, Option.some.injEq] at h
      have hp : p = q.p := by simpa using he
      subst hp
      cases h
      have hs := hb.1.1
      simp only [Bool.and_eq_true, decide_eq_true_eq] at hs
      exact ⟨hs, fun x => ⟨fun h0 => by rw [h0]; exact hb.1.2.1 x, fun j hj => by rw [hj]; exact hb.1.2.2 j x⟩⟩

/-! ### The contract -/
structure FnOk (P : Program) (f : FuncId) (n : Nat) (rv : List ResultVar) (c : Code) (np : Nat) : Prop where
  ok : ∃ fn, P.funcs[f]? = some fn ∧ fn.body = some c ∧ fn.ntmps = n ∧ fn.results.toList = rv ∧ (fn.name == "runtime.NumGoroutine") = false
  pts : distinct (ptsOf 0 c) = true
  np : np ≤ n

section
variable {f : FuncId} {n : Nat} {rv : List ResultVar} {c : Code} {tys : List (TypeId × TI)} {fns : Nat → List (FuncId × FS)} {fgs : Nat → List (FuncId × FG)} {fws : Nat → List (FuncId × FW)}

def QR {X : Type} (endf : Exit → St → Option X) (M0 : Nat → Prop) (b0 : Nat → Prop) (w0 : World) (nt : Nat × List Value) (r : X) : Exit → Act → World → Prop :=
  fun e a w => ∃ s, endf e s = some r ∧ Matches M0 b0 w0 nt s a w

theorem points_sound {X : Type} {pts : List (Pt X)} {endf : Exit → St → Option X} {ro : List Value} (hmix : P.follows .mixedOrders = true) (hty : tysB P tys = true) (hd : distinct (ptsOf 0 c) = true) (hpt : PtsOk (mkE tys fns fgs fws pts) ro.length n endf c pts) {M0 : Nat → Prop} {b0 : Nat → Prop} {w0 : World} {r : X} :
    ∀ k, (∀ j, j < k → AllK P (fns j) (fgs j) (fws j)) → Pts P (mkE tys fns fgs fws pts k) M0 b0 w0 (n, ro) r 0 c (QR endf M0 b0 w0 (n, ro) r)
  | 0, _ => by
    intro p s a w _ hk _
    unfold pointK at hk
    split at hk
    · cases hk
    · rename_i sig g hp
      split at hk
      · cases hk
      · split at hk
        · cases hk
        · rename_i x hx
          rw [((lookP_ok hpt 0 p sig g hp).2 x).1 rfl] at hk
          cases hk
  | k + 1, hall => by
    intro p s a w _ hk hm
    unfold pointK at hk
    split at hk
    · cases hk
    · rename_i sig g hp
      split at hk
      · cases hk
      · rename_i ds hds
        split at hk
        · cases hk
        · rename_i x hx
          have hl := lookP_ok hpt (k + 1) p sig g hp
          rw [← (hl.2 x).2 k rfl, decT_enc _ _ _ hx] at hk
          have ih := points_sound hmix hty hd hpt (M0 := M0) (b0 := b0) (w0 := w0) (r := r) k (fun j hj => hall j (by omega))
          exact fromK_sound (fun T ti h => tysB_ok hty T ti h) ⟨fun g gs h => lookF_ok (hall k (by omega)).1 g gs h, fun g gs h => lookW_ok (hall k (by omega)).2.2 g gs h, fun g gs h => lookG_ok (hall k (by omega)).2.1 g gs h⟩ hmix c 0 _ _ _ a w hk hd ih (fun e s' a' w' he hm' => ⟨s', he, hm'⟩) (unpack_matches hm hl.1 hds)

theorem encT_length : ∀ (ts : List Ty) (x : TD ts), (encT ts x).length = ts.length
  | [], _ => rfl
  | [_], _ => rfl
  | _ :: u :: ts, x => by simp [encT, encT_length (u :: ts) x.2]

theorem results_at {tyof : TypeId → Option TI} (hty : ∀ T ti, tyof T = some ti → TyOk P T ti) {fn : Func} (hrv : fn.results.toList = rv) {M0 b0 M' : Nat → Prop} {w : World} {s : St} {a : Act} {ν : Nat → Value} (hg : Good M0 b0 ν (obF s.obs) w)
    (hr : ∀ t, RepA (Msum M0 ν (obF s.obs)) ν (· < s.obs.length) (obF s.obs) w (nthD .bad s.fr t) (a.tmps.getD t undef)) (hM : ∀ b, M' b → Msum M0 ν (obF s.obs) b) {ts : List Ty} {ds : List Dyn}
    (hown : ∀ u id ob, .tmp u ∈ rv → nthD .bad s.fr u = .own id → obF s.obs id = some ob → ∀ b, (ν id).ownBlock = some b → ¬ M' b) (hds : resultsK tyof s ts rv = some ds) :
    ∃ us, (results fn a.tmps).run P w = .ok (tupleOf us) w ∧ RepDs M' w ds us := by
  let f0 : ResultVar → Sem Value := fun
    | .tmp t => pure (a.tmps.getD t undef)
    | .cell p t => do loadVar t (← asAddr (a.tmps.getD p undef))
  obtain ⟨us, k1, k2⟩ := results_rep hty hg hr hM f0 (fun u => rfl) (fun p t => rfl) ts rv ds hown hds
  refine ⟨us, results_tuple fun f hf hc => ?_, k2⟩
  have : f = f0 := by
    funext x
    cases x with
    | tmp u => exact hf u
    | cell p t => exact hc p t
  rw [this, hrv]
  exact k1

section plain
variable {ps rs : List Ty} {pts : List (Pt (TD rs))}

theorem end_post {tyof : TypeId → Option TI} (hty : ∀ T ti, tyof T = some ti → TyOk P T ti) {fn : Func} (hrv : fn.results.toList = rv) {M0 : Nat → Prop} {w : World} {nt : Nat × List Value} {r : TD rs} (e : Exit) (a : Act) (w' : World) (h : QR (endK tyof rv rs) M0 (w.heap.size ≤ ·) w nt r e a w') :
    bodyPost P fn (fun e w' => ∃ us, e = .returned (tupleOf us) ∧ RepDs M0 w' (encT rs r) us ∧ Below w.heap.size w w') e a w' := by
  obtain ⟨s, he, h1, h2, h3, hn3, ν, hw, hg, hr⟩ := h
  have key : (match resultsK tyof s rs rv with | some ds => decT rs ds | none => none) = some r → a.defers = [] ∧ ∃ v, (results fn a.tmps).run P w' = .ok v w' ∧ ∃ us, Ending.returned v = .returned (tupleOf us) ∧ RepDs M0 w' (encT rs r) us ∧ Below w.heap.size w w' := by
    intro hk
    split at hk
    · rename_i ds hds
      have henc := decT_enc _ _ _ hk
      obtain ⟨us, k1, k2⟩ := results_at hty hrv hg hr (M' := M0) (fun b hb => .inl hb) (fun u id ob _ _ hob b hb hm => hg.m0 b hm ((hg.ob id ob hob).2.2.choose_spec.1.2 b hb)) hds
      exact ⟨h1, _, k1, us, rfl, by rw [henc]; exact k2, h2.below⟩
    · cases hk
  cases e with
  | normal => exact key he
  | ret => exact key he
  | _ => simp [endK] at he

theorem fn_core (hf : FnOk P f n rv c ps.length) (hmix : P.follows .mixedOrders = true) (hty : tysB P tys = true) (hpt : PtsOk (mkE tys fns fgs fws pts) 0 n (endK (lookT tys) rv rs) c pts) (k : Nat) (hall : ∀ j, j ≤ k → AllK P (fns j) (fgs j) (fws j)) :
    Contract P f ⟨ps, rs, fun x => fnK (mkE tys fns fgs fws pts k) n rv c (encT ps x)⟩ := by
  intro x r hx M w vs hM hvs
  obtain ⟨fn, hfn, hb, hn, hrv, hname⟩ := hf.ok
  left
  have hname' : ¬ fn.name = "runtime.NumGoroutine" := by simpa using hname
  refine ⟨by simp [callFunc, hfn, hname', hb], calls_of_wp hfn hb ?_⟩
  rw [hn]
  have hm := entry_matches (nt := n) hM hvs (by simp only [encT_length]; exact hf.np)
  have hp := points_sound (ro := []) hmix hty hf.pts hpt (M0 := M) (b0 := (w.heap.size ≤ ·)) (w0 := w) (r := r) k (fun j hj => hall j (by omega))
  have := codeK_sound (fun T ti h => tysB_ok hty T ti h) ⟨fun g gs h => lookF_ok (hall k (Nat.le_refl _)).1 g gs h, fun g gs h => lookW_ok (hall k (Nat.le_refl _)).2.2 g gs h, fun g gs h => lookG_ok (hall k (Nat.le_refl _)).2.1 g gs h⟩ hmix c 0 _ _ _ _ w hx hf.pts hp (fun e s' a' w' he hm' => ⟨s', he, hm'⟩) hm
  exact wp_mono this fun e a w' h => end_post (fun T ti h => tysB_ok hty T ti h) hrv e a w' h

/-- A function that does not call itself. -/
theorem fn_sound (hf : FnOk P f n rv c ps.length) (hmix : P.follows .mixedOrders = true) (hty : tysB P tys = true) (hpt : PtsOk (mkE tys fns fgs fws pts) 0 n (endK (lookT tys) rv rs) c pts) {main : Nat → TD ps → Option (TD rs)}
    (hmain : ∀ k x, fnK (mkE tys fns fgs fws pts k) n rv c (encT ps x) = main k x) (hall : ∀ k, AllK P (fns k) (fgs k) (fws k)) (k : Nat) : Contract P f ⟨ps, rs, main k⟩ := by
  intro x r hx
  replace hx : main k x = some r := hx
  rw [← hmain k x] at hx
  exact fn_core hf hmix hty hpt k (fun j _ => hall j) x r hx

/-- A function that may call itself. -/
theorem fn_sound_rec (hf : FnOk P f n rv c ps.length) (hmix : P.follows .mixedOrders = true) (hty : tysB P tys = true) (hpt : PtsOk (mkE tys fns fgs fws pts) 0 n (endK (lookT tys) rv rs) c pts) {main : Nat → TD ps → Option (TD rs)}
    (h0 : ∀ x, main 0 x = none) (hmain : ∀ k x, fnK (mkE tys fns fgs fws pts k) n rv c (encT ps x) = main (k + 1) x) (k : Nat) (hall : ∀ j, j < k → AllK P (fns j) (fgs j) (fws j)) : Contract P f ⟨ps, rs, main k⟩ := by
  intro x r hx
  cases k with
  | zero =>
    replace hx : main 0 x = some r := hx
    rw [h0] at hx
    cases hx
  | succ k =>
    replace hx : main (k + 1) x = some r := hx
    rw [← hmain k x] at hx
    exact fn_core hf hmix hty hpt k (fun j hj => hall j (by omega)) x r hx

end plain
end
end Go.FK
