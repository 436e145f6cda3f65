/- ratio.parts: what its loop hands over, one after another: the iterator's contract. -/
import Derived.Test.YtllpdchpjhgkgaaGreatDoorF5
import Derived.Test.YtllpdchpjhgkgaaGreatDoorProg
namespace Go.FK
open Go.RowKit Go.Proofs

def ptTys : List (TypeId × TI) := [(28, ⟨.int .i64, 0, 0⟩), (4, ⟨.bool, 0, 0⟩), (25, ⟨ptZ, 0, 0⟩), (27, ⟨ptQ, 0, 0⟩), (56, ⟨.list ptZ, 25, 32⟩)]
theorem ptTysOk : tysB Tryz.prog ptTys = true := by kernel_rfl
theorem ptMix : Tryz.prog.follows .mixedOrders = true ∧ ArrsOk Tryz.prog := ⟨by kernel_rfl, arrsB_ok (by kernel_rfl)⟩

section
variable (fl : Nat → PQ → Option PZ) (fo : Nat → PZ → Option PQ) (fs : Nat → PQ × PQ → Option PQ) (fi : Nat → PQ → Option (PQ × Int))

def ptFns (k : Nat) : List (FuncId × FS) := [(20, ⟨[ptQ], [ptZ], fun x => fl k x⟩), (56, ⟨[ptZ], [ptQ], fun x => fo k x⟩), (55, ⟨[ptQ, ptQ], [ptQ], fun x => fs k x⟩), (54, ⟨[ptQ], [ptQ, .int .i64], fun x => fi k x⟩)]
def ptE (X : Type) (k : Nat) : Env X := mkE ptTys (ptFns fl fo fs fi) (fun _ => []) (fun _ => []) [] k

/-! ### The code's parts -/
def cL : Code → Code | .seq a _ => a | c => c
def cR : Code → Code | .seq _ b => b | c => c
def cB : Code → Code | .block _ c => c | c => c
def cP : Code → Code | .loop c => c | c => c
def cO : Code → Array Oper | .region _ o _ => o | _ => #[]
def ptC (f : Func) : Code := cB (cP (cB (f.body.getD .skip)))
def ptR0 (f : Func) : Array Oper := cO (cL (ptC f))
def ptR1 (f : Func) : Array Oper := cO (cL (cL (cR (ptC f))))
def ptRest (f : Func) : Code := cR (cR (ptC f))
def ptY (f : Func) : Oper := match (ptR1 f).toList with | _ :: _ :: o :: _ => o | _ => { dst := none, op := .assign (.const .nilIface), type := 0, pos := "", after := #[], guard := none }
theorem ptBody : Tryz.f53.body = some (.block 0 (.loop (.block 1 (.seq (.region 0 (ptR0 Tryz.f53) false) (.seq (.seq (.region 1 (ptR1 Tryz.f53) false) (.cond (.tmp 11) .ret .skip)) (ptRest Tryz.f53)))))) := by kernel_rfl
theorem ptSplit : (ptR1 Tryz.f53).toList = (ptR1 Tryz.f53).toList.take 2 ++ ptY Tryz.f53 :: (ptR1 Tryz.f53).toList.drop 3 := by kernel_rfl
theorem ptYop : (ptY Tryz.f53).op = .call ⟨.value (.tmp 8), #[.tmp 9], #[25]⟩ := by kernel_rfl
theorem ptYdst : (ptY Tryz.f53).dst = some 10 := by kernel_rfl
theorem ptYguard : (ptY Tryz.f53).guard = none := by kernel_rfl

def ptN (f : Func) : Oper := match (ptR1 f).toList with | _ :: _ :: _ :: o :: _ => o | _ => { dst := none, op := .assign (.const .nilIface), type := 0, pos := "", after := #[], guard := none }
theorem ptTail : (ptR1 Tryz.f53).toList.drop 3 = [ptN Tryz.f53] := by kernel_rfl
theorem ptNop : (ptN Tryz.f53).op = .unOp .not 4 (.tmp 10) := by kernel_rfl
theorem ptNdst : (ptN Tryz.f53).dst = some 11 := by kernel_rfl
theorem ptNguard : (ptN Tryz.f53).guard = none := by kernel_rfl

/-! ### The interpreter's states -/
def hdS (l : Nat) (x : PQ) : St := ⟨setN (.ptr 0 0 []) (setN (.fn (yldN l)) (blank 23) 0) 1, [some ⟨27, ptQ, [x]⟩]⟩
def sA (l : Nat) (x : PQ) (n : PZ) : St := ⟨setN (.val ptZ n) (setN (.val ptQ x) (setN (.ptr 3 0 []) (hdS l x).fr 3) 6) 7, [some ⟨27, ptQ, [x]⟩, none, none, some ⟨25, ptZ, [n]⟩, none]⟩
def sB (l : Nat) (x : PQ) (n : PZ) : St := ⟨setN (.val ptZ n) (setN (.fn (yldN l)) (sA l x n).fr 8) 9, (sA l x n).obs ++ [none, none]⟩
def sM (l : Nat) (x : PQ) (n : PZ) : St := ⟨setN (.mem ptZ n) (hdS l x).fr 3, [some ⟨27, ptQ, [x]⟩]⟩
def sY (l : Nat) (x : PQ) (n : PZ) (b : Bool) : St := ⟨setN (.val .bool b) (sM l x n).fr 10, (sM l x n).obs⟩
def sC (l : Nat) (x : PQ) (n : PZ) (b : Bool) : St := ⟨setN (.val .bool (!b)) (sY l x n b).fr 11, (sM l x n).obs⟩
/-- What is left at a round's end: the next number and yield, or that it is over. -/
def endP (e : Exit) (s : St) : Option (Option (PQ × AV)) := match e with
  | .normal => match nthD none s.obs 0, nthD .bad s.fr 1 with
    | some ⟨e', .st (.pair (.st (.pair .bool (.list (.int .u32)))) (.list (.int .u32))), [y]⟩, .ptr 0 0 [] => if e' = 27 then some (some (y, nthD .bad s.fr 0)) else none
    | _, _ => none
  | .ret => some none
  | _ => none
theorem endP_some {s : St} {y : PQ} {av : AV} (h : endP .normal s = some (some (y, av))) : nthD none s.obs 0 = some ⟨27, ptQ, [y]⟩ ∧ nthD .bad s.fr 1 = .ptr 0 0 [] ∧ nthD .bad s.fr 0 = av := by
  unfold endP at h
  simp only at h
  split at h
  · rename_i e' z h1 h2
    split at h
    · rename_i he
      subst he
      simp only [Option.some.injEq, Prod.mk.injEq] at h
      obtain ⟨rfl, rfl⟩ := h
      exact ⟨h1, h2, rfl⟩
    · cases h
  · cases h

theorem endP_ret {e : Exit} {s : St} (h : endP e s = some none) : e = .ret := by
  cases e with
  | ret => rfl
  | normal =>
    unfold endP at h
    simp only at h
    split at h
    · split at h <;> cases h
    · cases h
  | _ => cases h
theorem endP_normal {e : Exit} {s : St} {y : PQ × AV} (h : endP e s = some (some y)) : e = .normal := by
  cases e with
  | normal => rfl
  | _ => cases h

theorem runA (l k : Nat) (x : PQ) : regionK (ptE fl fo fs fi St k) (ptR0 Tryz.f53).toList false (hdS l x) some = (fl k x).bind fun n => some (sA l x n) := by kernel_rfl
theorem runB (l k : Nat) (x : PQ) (n : PZ) : runOps (ptE fl fo fs fi St k) (ptR1 Tryz.f53).toList 5 ((ptR1 Tryz.f53).toList.take 2) [] (freeze (sA l x n) (consOps (ptE fl fo fs fi St k) (ptR1 Tryz.f53).toList)) some = some (sB l x n) := by kernel_rfl
theorem runD (l k : Nat) (x : PQ) (n : PZ) (b : Bool) : codeK (ptE fl fo fs fi (Option (PQ × AV)) k) 1 (ptRest Tryz.f53) (sC l x n b) endP =
    (fo k n).bind fun q => (fs k (x, q)).bind fun d => (fi k d).bind fun p => bif !decide (p.2 = (0 : Int)) then some none else some (some (p.1, .fn (yldN l))) := by kernel_rfl

/-- What the contracts say of the functions that parts calls. -/
structure PtCalls : Prop where
  fl : ∀ k, Contract Tryz.prog 20 ⟨[ptQ], [ptZ], fun x => fl k x⟩
  fo : ∀ k, Contract Tryz.prog 56 ⟨[ptZ], [ptQ], fun x => fo k x⟩
  fs : ∀ k, Contract Tryz.prog 55 ⟨[ptQ, ptQ], [ptQ], fun x => fs k x⟩
  fi : ∀ k, Contract Tryz.prog 54 ⟨[ptQ], [ptQ, .int .i64], fun x => fi k x⟩
variable {fl fo fs fi}
theorem ptFnsOk (hc : PtCalls fl fo fs fi) (X : Type) (k : Nat) : FnsOk Tryz.prog (ptE fl fo fs fi X k) := by
  refine ⟨fun g m gs h => lookF_ok (P := Tryz.prog) (l := ptFns fl fo fs fi k) ⟨hc.fl k, hc.fo k, hc.fs k, hc.fi k, trivial⟩ g m gs h, fun f fw h => ?_, fun f fg h => ?_, ptMix.2⟩
  · cases h
  · cases h
theorem ptTy {X : Type} {k : Nat} : ∀ T ti, (ptE fl fo fs fi X k).ty T = some ti → TyOk Tryz.prog T ti := fun T ti h => tysB_ok ptTysOk T ti h

theorem hdS_bad {l : Nat} {x : PQ} {t : Nat} (h0 : t ≠ 0) (h1 : t ≠ 1) : nthD .bad (hdS l x).fr t = .bad := by
  unfold hdS
  rw [nthD_setN, if_neg (by omega), nthD_setN, if_neg (by omega), nthD_blank]
theorem sM_bad {l : Nat} {x : PQ} {n : PZ} {t : Nat} (h0 : t ≠ 0) (h1 : t ≠ 1) (h3 : t ≠ 3) : nthD .bad (sM l x n).fr t = .bad := by
  unfold sM
  rw [nthD_setN, if_neg (by omega), hdS_bad h0 h1]

/-- **ratio.parts hands over the parts of a number, one after another.** -/
theorem parts_ok (hc : PtCalls fl fo fs fi) : ∀ (k : Nat) (x : PQ) (xs : List PZ), expF fl fo fs fi k x = some xs → ∀ B, ItOk Tryz.prog 53 #[.pointer (some ⟨B, 0, none⟩)] B (fun M W n v => RepV M W ptZ n v) xs (fun M W => ∃ c, ObIn M W (.slice (some ⟨B, 0, none⟩) 1 c) ⟨27, ptQ, [x]⟩) := by
  rintro k x xs hx B l J Jx X W hJX hJ hJx hY h0 ⟨c, hst⟩
  have hrow : (Value.slice (some ⟨B, 0, none⟩) 1 c).ownBlock = some B := rfl
  obtain ⟨hXs, hXB, hgl⟩ := hJX _ _ _ h0
  have hBlt : B < W.heap.size := by
    obtain ⟨_, _, ys, h, _⟩ := hst
    exact (h.lt B rfl).2
  have hres : ∀ (tmps : Array Value) (W : World), ∃ v, (results Tryz.f53 tmps).run Tryz.prog W = .ok v W := fun tmps W => results_none (by kernel_rfl)
  refine callsIn_of_wp Tryz.func53 ptBody trivial ?_
  have hent := entryG_matches (M := Plus X B) (w := W) (row := .slice (some ⟨B, 0, none⟩) 1 c) (n := 23) (ps := [.val (.fnc (yldN l)), .obj 27 ptQ]) (ds := [⟨.fnc (yldN l), ()⟩, ⟨ptQ, x⟩]) (vs := [.func (.yield l) #[] #[], .pointer (some ⟨B, 0, none⟩)])
    (fun b hb => hb.elim (hXs b) (fun e => e ▸ hBlt)) (fun b hb => .inr (by cases hb; rfl)) hgl rfl ⟨⟨rfl, _, rfl, (fV_yld l).symm⟩, hst.o, ⟨B, 1, c, rfl, rfl⟩, trivial⟩ (by show 2 ≤ 23; decide)
  have hm0 := rebase (s' := hdS l x) hrow hent rfl (ob := ⟨27, ptQ, [x]⟩) rfl rfl (Chg.refl _ _) (fun q _ h => ⟨.inl h, fun e => hXB (by cases e; exact h)⟩) hXB hXs hgl rfl rfl (fun t => by
    by_cases t0 : t = 0
    · subst t0; exact .fnv _ _
    by_cases t1 : t = 1
    · subst t1; exact .cap []
    · rw [hdS_bad t0 t1]; exact .bad _)
  refine wpIn_block ?_
  refine wpIn_loop_n (fun m a W => ∃ k x pr rest X, expF fl fo fs fi k x = some rest ∧ pr ++ rest = xs ∧ rest.length = m ∧ J pr X W ∧ Matches X (fun q => W.heap.size ≤ q ∨ q = B) W ⟨23, [.slice (some ⟨B, 0, none⟩) 1 c], []⟩ (hdS l x) a W) xs.length ⟨k, x, [], xs, X, hx, rfl, rfl, h0, hm0⟩ ?_
  clear hent hm0 h0 hgl hXB hXs hx hst
  rintro m a W1 ⟨k1, x1, pr, rest, X1, hx1, hpr, rfl, hj, hm⟩
  cases k1 with
  | zero => cases hx1
  | succ k1 =>
    unfold expF at hx1
    obtain ⟨n, hn, hx1⟩ := Option.bind_eq_some_iff.1 hx1
    obtain ⟨q, hq, hx1⟩ := Option.bind_eq_some_iff.1 hx1
    obtain ⟨d, hd, hx1⟩ := Option.bind_eq_some_iff.1 hx1
    obtain ⟨p, hp, hx1⟩ := Option.bind_eq_some_iff.1 hx1
    have hpr' : ∃ rest', rest = n :: rest' := by
      cases hz : (!decide (p.2 = (0 : Int)))
      · rw [hz] at hx1
        obtain ⟨l', _, h⟩ := Option.bind_eq_some_iff.1 hx1
        exact ⟨l', (Option.some.inj h).symm⟩
      · rw [hz] at hx1
        exact ⟨[], (Option.some.inj hx1).symm⟩
    obtain ⟨rest', rfl⟩ := hpr'
    refine wpIn_block (wpIn_seq ?_)
    refine region_in (ro := none) ptTy (ptFnsOk hc St k1) (K := some) (r := sA l x1 n) (by rw [runA, hn]; rfl) (by kernel_rfl) hm (fun s' a' w' hs hm1 => ?_)
    cases hs
    refine wpIn_seq (wpIn_seq (wpIn_region_list ?_))
    rw [ptSplit]
    refine piece_in (ro := none) ptTy (ptFnsOk hc St k1) (K := some) (r := sB l x1 n) (n0 := 5) (fun s2 a2 w2 hs2 hm2 => ?_) _ [] _ _ _ (by kernel_rfl) (runB _ _ _ _ l k1 x1 n) (freeze_sound _ _ hm1)
    cases hs2
    -- yield
    have hC2 : Chg (· = B) W1 w2 := by
      have := hm2.2.1
      exact ⟨this.os, this.tape, this.output, this.size, fun q hq => this.block q fun e => hq e.symm⟩
    have hj2 := hJ _ _ _ _ hj hC2
    obtain ⟨_, _, _, _, ν, hw2, hg2, hr2⟩ := id hm2
    have h8 : a2.eval (.tmp 8) = .func (.yield l) #[] #[] := (hr2 8).trans (fV_yld l)
    have h9 : RepV (Plus X1 B) w2 ptZ n (a2.eval (.tmp 9)) := RepV.next (Agree.refl _ _) (fun b _ hb => hb.elim .inl (fun e => .inr ⟨0, _, rfl, by rw [(hw2 0 _ rfl).2]; exact e ▸ rfl⟩)) (hr2 9)
    obtain ⟨fn, tmps, assign, body, hyr, hround⟩ := hY pr n rest' X1 _ w2 hpr hj2 h9
    show wpListIn (Wd none) 0 _ _ _ (ptY Tryz.f53 :: _) a2 w2
    unfold wpListIn
    rw [if_pos (by unfold Region.wanted; rw [ptYguard])]
    refine ⟨fun _ _ => trivial, ?_⟩
    rw [show (Wd none).round = none from rfl, yield_run ptYop h8, hyr]
    refine ⟨fun h => by simp [Wd, Fence.wide] at h, RoundIn.mono hround fun e W2 hr => ?_⟩
    rw [ptYdst]
    have hbo : ∀ b : Bool, (a2.put (some 10) (.bool b)).eval (.tmp 10) = .bool b ∧ ((a2.put (some 10) (.bool b)).put (some 11) (.bool (!b))).eval (.tmp 11) = .bool (!b) := by
      intro b
      have m1 := hm2.put (some 10) (av := .val .bool b) (v := .bool b) (fun _ _ _ _ _ => bool_repV _ _ _)
      have m2 := m1.put (some 11) (av := .val .bool (!b)) (v := .bool (!b)) (fun _ _ _ _ _ => bool_repV _ _ _)
      obtain ⟨_, _, _, _, _, _, _, r1⟩ := m1
      obtain ⟨_, _, _, _, _, _, _, r2⟩ := m2
      exact ⟨repV_bool (r1 10), repV_bool (r2 11)⟩
    have hdf : a2.defers = [] := hm2.1
    have hnot : ∀ (b : Bool) (W : World) (Q : Exit → Act → World → Prop), Q .normal ((a2.put (some 10) (.bool b)).put (some 11) (.bool (!b))) W → wpListIn (Wd none) 0 Tryz.prog (ptR1 Tryz.f53) Q ((ptR1 Tryz.f53).toList.drop 3) (a2.put (some 10) (.bool b)) W := by
      intro b W Q h
      rw [ptTail]
      unfold wpListIn
      rw [if_pos (by unfold Region.wanted; rw [ptNguard])]
      refine wp_in (ro := none) (fun c e => by rw [ptNop] at e; cases e) ?_
      unfold Oper.wp
      rw [not_run ptNop (hbo b).1]
      show wpListIn (Wd none) 0 Tryz.prog (ptR1 Tryz.f53) Q [] ((a2.put (some 10) (.bool b)).put (ptN Tryz.f53).dst (.bool (!b))) W
      rw [ptNdst]
      exact h
    rcases hr with ⟨rfl, X2, hj3, hC, hX2⟩ | ⟨rfl, hjx⟩
    · refine hnot true W2 _ ?_
      refine wpIn_cond (t := false) (hbo true).2 (wpIn_skip ?_)
      obtain ⟨hXs2, hXB2, hgl2⟩ := hJX _ _ _ hj3
      have hm3 := rebase (s' := sM l x1 n) hrow hm2 rfl (ob := ⟨27, ptQ, [x1]⟩) rfl rfl hC hX2 hXB2 hXs2 hgl2 rfl rfl (fun t => by
        by_cases t0 : t = 0
        · subst t0; exact .fn _
        by_cases t1 : t = 1
        · subst t1; exact .cap []
        by_cases t3 : t = 3
        · subst t3; exact .mem 3 25 ptZ n (by decide) rfl rfl
        · rw [sM_bad t0 t1 t3]; exact .bad _)
      have hm4 := hm3.put (some 10) (av := .val .bool true) (v := .bool true) (fun _ _ _ _ _ => bool_repV _ _ _)
      have hm5 : Matches X2 (fun q => W2.heap.size ≤ q ∨ q = B) W2 ⟨23, [.slice (some ⟨B, 0, none⟩) 1 c], []⟩ (sC l x1 n true) ((a2.put (some 10) (.bool true)).put (some 11) (.bool (!true))) W2 :=
        hm4.put (some 11) (av := .val .bool (!true)) (v := .bool (!true)) (fun _ _ _ _ _ => bool_repV _ _ _)
      have hrun := runD fl fo fs fi l k1 x1 n true
      rw [hq] at hrun
      simp only [Option.bind_some] at hrun
      rw [hd] at hrun
      simp only [Option.bind_some] at hrun
      rw [hp] at hrun
      simp only [Option.bind_some] at hrun
      have hch : ∀ {s3 : St} {a3 : Act} {w3 : World}, Matches X2 (fun q => W2.heap.size ≤ q ∨ q = B) W2 ⟨23, [.slice (some ⟨B, 0, none⟩) 1 c], []⟩ s3 a3 w3 → J (pr ++ [n]) X2 w3 := fun {s3 a3 w3} h => by
        have := h.2.1
        exact hJ _ _ _ _ hj3 ⟨this.os, this.tape, this.output, this.size, fun q hq => this.block q fun e => hq e.symm⟩
      cases hz : (!decide (p.2 = (0 : Int)))
      · rw [hz] at hx1 hrun
        simp only [cond_false] at hx1 hrun
        obtain ⟨l', hl', h⟩ := Option.bind_eq_some_iff.1 hx1
        have h := Option.some.inj h
        have hl2 : l' = rest' := (List.cons.inj h).2
        subst hl2
        refine (wpIn_wide (n := 0)).2 (codeK_sound ptTy (ptFnsOk hc _ k1) ptMix.1 _ 1 _ _ _ _ _ hrun (by kernel_rfl) (fun p s a w _ hk _ => by cases hk) (fun e s3 a3 w3 he hm6 => ?_) hm5)
        have hn := endP_normal he
        subst hn
        obtain ⟨e1, e2, e3⟩ := endP_some he
        have hj4 := hch hm6
        obtain ⟨hXs4, hXB4, hgl4⟩ := hJX _ _ _ hj4
        refine ⟨l'.length, by simp, k1, p.1, pr ++ [n], l', X2, hl', by simp [hpr], rfl, hj4, ?_⟩
        exact rebase (s' := hdS l p.1) hrow hm6 rfl (ob := ⟨27, ptQ, [p.1]⟩) e1 rfl (Chg.refl _ _) (fun q _ h => h) hXB4 hXs4 hgl4 rfl (hm6.2.2.2.1.symm.trans hm6.2.2.1) (fun t => by
          by_cases t0 : t = 0
          · subst t0; rw [e3]; exact .fn _
          by_cases t1 : t = 1
          · subst t1; rw [e2]; exact .cap []
          · rw [hdS_bad t0 t1]; exact .bad _)
      · rw [hz] at hx1 hrun
        simp only [cond_true] at hx1 hrun
        have h := Option.some.inj hx1
        have hl2 : ([] : List PZ) = rest' := (List.cons.inj h).2
        subst hl2
        refine (wpIn_wide (n := 0)).2 (codeK_sound ptTy (ptFnsOk hc _ k1) ptMix.1 _ 1 _ _ _ _ _ hrun (by kernel_rfl) (fun p s a w _ hk _ => by cases hk) (fun e s3 a3 w3 he hm6 => ?_) hm5)
        have hn := endP_ret he
        subst hn
        obtain ⟨v, hv⟩ := hres a3.tmps w3
        exact ⟨hm6.1, v, hv, ⟨v, rfl⟩, .inl ⟨X2, by rw [← hpr]; exact hch hm6⟩⟩
    · refine hnot false W2 _ ?_
      refine wpIn_cond (t := true) (hbo false).2 (wpIn_ret ?_)
      obtain ⟨v, hv⟩ := hres ((a2.put (some 10) (.bool false)).put (some 11) (.bool (!false))).tmps W2
      exact ⟨hdf, v, hv, ⟨v, rfl⟩, .inr hjx⟩
end
end Go.FK
