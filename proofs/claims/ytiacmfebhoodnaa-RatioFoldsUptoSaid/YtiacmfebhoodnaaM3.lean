import Derived.Test.YtiacmfebhoodnaaM2
import Derived.Test.YtiacmfebhoodnaaF3
/- The plain law: RatioQuotients and RatioSums. -/
namespace Go.FK

abbrev tyNat : Ty := .list (.int .u32)
abbrev tyInt : Ty := .st (.pair .bool tyNat)
abbrev tyRat : Ty := .st (.pair tyInt tyNat)

theorem nat_wf {a : List Int} (h : tyNat.wf a) : Lim a := by
  intro x hx
  have h2 : IntKind.u32.min ≤ x ∧ x ≤ IntKind.u32.max := h.2 x hx
  have e1 : IntKind.u32.min = 0 := by decide
  have e2 : IntKind.u32.max = 4294967295 := by decide
  rw [e1, e2] at h2
  simp only [B]
  omega
theorem nat_mass (a : List Int) : tyNat.mass a = a.length + 1 := by
  have : ∀ l : List Int, (l.map fun _ => 1).sum = l.length := by
    intro l
    induction l with
    | nil => rfl
    | cons x xs ih => simp only [List.map_cons, List.sum_cons, ih, List.length_cons]; omega
  show (a.map fun _ => 1).sum + 1 = _
  rw [this]
theorem rat_rt {r : RR} (h : tyRat.wf r) {M : Nat} (hM : tyRat.mass r ≤ M) : Rt M r (Qv r) := by
  have h1 : tyNat.wf r.1.2 := h.1.2
  have h2 : tyNat.wf r.2 := h.2
  have hm : tyRat.mass r = (1 + tyNat.mass r.1.2) + tyNat.mass r.2 := rfl
  rw [nat_mass, nat_mass] at hm
  exact ⟨nat_wf h1, nat_wf h2, by omega, by omega, rfl⟩

theorem Rt.twin {M : Nat} {r : RR} {q : Rat} (h : Rt M r q) (hM : M ≤ 70368744177664) : Ev (fun k => law03_twin.f k r) r := by
  have h1 := h.nlen
  have h2 := h.dlen
  have hw : Ev (fun k => law03_whole.f k r.1) r.1 := by
    unfold law03_whole.f law03_whole.e
    exact Ev.bind (law03_nat_ev r.1.2 (by omega)) Ev.pure
  unfold law03_twin.f law03_twin.e
  exact Ev.bind hw (Ev.bind (law03_nat_ev r.2 (by omega)) Ev.pure)

theorem same_rat {M : Nat} {q : Rat} (h : LQ q ≤ M) (hM : M ≤ 35184372088832) : Ev (fun k => law03_same.f k (rat q) (rat q)) true := by
  unfold law03_same.f law03_same.e
  have h1 := LQ_num q
  have h2 := LQ_den q
  have := r3Same_ev (rat q) (rat q) (by show L q.num.natAbs ≤ _; unfold LZ at h1; omega) (by show L q.den ≤ _; omega)
  rw [dec_t rfl] at this
  exact Ev.bind this Ev.pure
theorem none_noRat : Ev (fun k => law03_none.f k noRat) true := by
  unfold law03_none.f law03_none.e noRat
  exact Ev.tru rfl (Ev.tru (by simp) Ev.pure)

theorem half_rt {M : Nat} (hM : 1 ≤ M) : Rt M ((false, [1]), [2]) (mkRat 1 2) := by
  refine ⟨Lim.mk (by simp [B]) Lim.nil, Lim.mk (by simp [B]) Lim.nil, by simpa using hM, by simpa using hM, ?_⟩
  unfold Qv Zv
  simp [V]

theorem quotients_p19 (x : RR) : Ev (fun k => law03_RatioQuotients.p19 k x) true := by
  refine Ev.turn (fun k => law03_RatioQuotients.p19_succ k _) ?_
  unfold law03_RatioQuotients.e19
  have h3 : Rt 10 (rat ((3 : Int) : Rat)) ((3 : Int) : Rat) := Rt.of (by
    unfold LQ LZ; rw [Rat.num_intCast, Rat.den_intCast]
    have := L_small (n := 3) (by omega); have := L_small (n := 1) (by omega)
    show L 3 + L 1 ≤ 10; omega)
  have h6 : Rt 10 (rat ((6 : Int) : Rat)) ((6 : Int) : Rat) := Rt.of (by
    unfold LQ LZ; rw [Rat.num_intCast, Rat.den_intCast]
    have := L_small (n := 6) (by omega); have := L_small (n := 1) (by omega)
    show L 6 + L 1 ≤ 10; omega)
  refine Ev.bind (whole_Whole_ev (by omega)) (Ev.bind (whole_Whole_ev (by omega)) (Ev.bind (h3.div h6 (by omega) (by omega) (by decide)) (Ev.tru (by simp) ?_)))
  have e : ((3 : Int) : Rat) * ((6 : Int) : Rat)⁻¹ = mkRat 1 2 := by decide +kernel
  rw [e]
  have hh := half_rt (M := 10) (by omega)
  exact Ev.bind (hh.rnorm (by omega)) (Ev.bind (same_rat (M := 100) (Nat.le_trans (hh.LQ (by omega)) (by omega)) (by omega)) Ev.pure)

theorem quotients_p11 {M : Nat} {r s : RR} {p q : Rat} (hr : Rt M r p) (hs : Rt M s q) (h1 : 1 ≤ M) (hM : M ≤ 274877906943) (x y : RR) : Ev (fun k => law03_RatioQuotients.p11 k r s x y) true := by
  refine Ev.turn (fun k => law03_RatioQuotients.p11_succ k _ _ _ _) ?_
  unfold law03_RatioQuotients.e11
  have lp := hr.LQ h1
  have lq := hs.LQ h1
  refine Ev.bind (hr.twin (by omega)) (Ev.bind (hs.twin (by omega)) ?_)
  by_cases h0 : q = 0
  · subst h0
    refine Ev.bind (hr.div_zero hs h1 hM) (Ev.bind (hr.rdiv_zero hs h1 hM) ?_)
    refine Ev.fls (by simp) (Ev.fls (by simp) (Ev.tru (by simp) (Ev.bind none_noRat (Ev.fls (by simp) ?_))))
    exact quotients_p19 _
  · refine Ev.bind (hr.div hs h1 hM h0) (Ev.bind (hr.rdiv hs h1 hM h0) ?_)
    have hL : LQ (p * q⁻¹) ≤ 5 * M := by have := LQ_mul p q⁻¹; have := LQ_inv q; omega
    refine Ev.fls (by simp) (Ev.tru (by simp) (Ev.bind (same_rat hL (by omega)) (Ev.fls (by simp) (Ev.fls (by simp) ?_))))
    exact quotients_p19 _

theorem quotients_ev {M : Nat} {r s : RR} {p q : Rat} (hr : Rt M r p) (hs : Rt M s q) (h1 : 1 ≤ M) (hM : M ≤ 274877906943) : Ev (fun k => law03_RatioQuotients.f k r s) true := by
  unfold law03_RatioQuotients.f law03_RatioQuotients.e
  have lq := hs.LQ h1
  refine Ev.bind (hs.twin (by omega)) ?_
  by_cases h0 : q = 0
  · subst h0
    refine Ev.bind (hs.inv_zero h1 (by omega)) (Ev.bind (hs.rinv_zero h1 (by omega)) ?_)
    refine Ev.fls (by simp) (Ev.fls (by simp) (Ev.tru (by simp) (Ev.bind none_noRat (Ev.fls (by simp) ?_))))
    exact quotients_p11 hr hs h1 hM _ _
  · refine Ev.bind (hs.inv h1 (by omega) h0) (Ev.bind (hs.rinv h1 (by omega) h0) ?_)
    have hL : LQ q⁻¹ ≤ 5 * M := by have := LQ_inv q; omega
    refine Ev.fls (by simp) (Ev.tru (by simp) (Ev.bind (same_rat hL (by omega)) (Ev.fls (by simp) (Ev.fls (by simp) ?_))))
    exact quotients_p11 hr hs h1 hM _ _

theorem LQ_abs (q : Rat) : LQ q.abs = LQ q := by
  rcases Rat.le_total (a := 0) (b := q) with h | h
  · rw [Rat.abs_of_nonneg h]
  · rw [Rat.abs_of_nonpos h, LQ_neg]

theorem sums_ev {M : Nat} {r s : RR} {p q : Rat} (hr : Rt M r p) (hs : Rt M s q) (h1 : 1 ≤ M) (hM : M ≤ 109951162777) : Ev (fun k => law03_RatioSums.f k r s) true := by
  unfold law03_RatioSums.f law03_RatioSums.e
  have lp := hr.LQ h1
  have lq := hs.LQ h1
  have la := LQ_add p q
  have lsb := LQ_sub p q
  have lm := LQ_mul p q
  have t1 := hr.twin (by omega)
  have t2 := hs.twin (by omega)
  refine Ev.bind t1 (Ev.bind t2 (Ev.bind (hr.cmp hs h1 (by omega)) (Ev.bind (hr.rcmp hs h1 (by omega)) (Ev.fls (by simp) ?_))))
  refine Ev.bind t1 (Ev.bind (hr.neg h1 (by omega)) (Ev.bind (hr.rneg h1 (by omega)) (Ev.bind (same_rat (M := 2 * M) (by rw [LQ_neg]; omega) (by omega)) (Ev.fls (by simp) ?_))))
  refine Ev.bind t1 (Ev.bind (hr.abs h1 (by omega)) (Ev.bind (hr.rabs h1 (by omega)) (Ev.bind (same_rat (M := 2 * M) (by rw [LQ_abs]; omega) (by omega)) (Ev.fls (by simp) ?_))))
  refine Ev.bind t1 (Ev.bind t2 (Ev.bind (hr.add hs h1 (by omega)) (Ev.bind (hr.radd hs h1 (by omega)) (Ev.bind (same_rat (M := 9 * M) (by omega) (by omega)) (Ev.tru rfl ?_)))))
  refine Ev.bind t1 (Ev.bind t2 (Ev.bind (hr.sub hs h1 (by omega)) (Ev.bind (hr.rsub hs h1 (by omega)) (Ev.bind (same_rat (M := 9 * M) (by omega) (by omega)) (Ev.tru rfl ?_)))))
  exact Ev.bind t1 (Ev.bind t2 (Ev.bind (hr.mul hs h1 (by omega)) (Ev.bind (hr.rmul hs h1 (by omega)) (Ev.bind (same_rat (M := 9 * M) (by omega) (by omega)) Ev.pure))))

theorem quotients_math (x : TD [tyRat, tyRat]) (hw : wfDs (encT [tyRat, tyRat] x)) (hm : massDs (encT [tyRat, tyRat] x) ≤ 1048576) : ∃ k, law03_RatioQuotients.f k x.1 x.2 = some true := by
  obtain ⟨h1, h2, _⟩ := hw
  have hm' : tyRat.mass x.1 + (tyRat.mass x.2 + 0) ≤ 1048576 := hm
  exact (quotients_ev (rat_rt (r := x.1) h1 (M := 1048576) (by omega)) (rat_rt (r := x.2) h2 (M := 1048576) (by omega)) (by omega) (by omega)).some
theorem sums_math (x : TD [tyRat, tyRat]) (hw : wfDs (encT [tyRat, tyRat] x)) (hm : massDs (encT [tyRat, tyRat] x) ≤ 1048576) : ∃ k, law03_RatioSums.f k x.1 x.2 = some true := by
  obtain ⟨h1, h2, _⟩ := hw
  have hm' : tyRat.mass x.1 + (tyRat.mass x.2 + 0) ≤ 1048576 := hm
  exact (sums_ev (rat_rt (r := x.1) h1 (M := 1048576) (by omega)) (rat_rt (r := x.2) h2 (M := 1048576) (by omega)) (by omega) (by omega)).some

end Go.FK

/- The plain law: RatioFolds. -/
namespace Go.FK

/-- The numbers that Go's data say. -/
def zs (l : List (Bool × List Int)) : List Int := l.map Zv

def z0 : Bool × List Int := (false, [])

theorem nthD_map_zv : ∀ (l : List (Bool × List Int)) (i : Nat), Zv (nthD z0 l i) = nthD 0 (zs l) i
  | [], _ => by simp [nthD, zs, z0, Zv, V]
  | x :: xs, 0 => rfl
  | x :: xs, i + 1 => nthD_map_zv xs i

/-- A list of numbers in Go's hands: all of at most M limbs. -/
def Ls (M : Nat) (l : List (Bool × List Int)) : Prop := ∀ x ∈ l, Lim x.2 ∧ x.2.length ≤ M

theorem Ls.get {M : Nat} {l : List (Bool × List Int)} (h : Ls M l) (i : Nat) : Zt M (nthD z0 l i) (nthD 0 (zs l) i) := by
  rw [← nthD_map_zv]
  rw [nthD_eq, List.getD_eq_getElem?_getD]
  by_cases hi : i < l.length
  · simp only [hi, List.getElem?_eq_getElem, Option.getD_some]
    have := h _ (List.getElem_mem hi)
    exact ⟨this.1, rfl, this.2⟩
  · simp only [show l[i]? = none from List.getElem?_eq_none (by omega), Option.getD_none]
    exact ⟨Lim.nil, rfl, Nat.zero_le _⟩

/-- A continued fraction's number, from a place on. -/
def fold : List Int → Rat
  | [] => 0
  | [x] => x
  | x :: y :: xs => x + (fold (y :: xs))⁻¹

/-- The size of what is folded. -/
def cost : List Int → Nat
  | [] => 0
  | x :: xs => LZ x + 2 + cost xs

theorem fold_ge_one : ∀ (l : List Int), l ≠ [] → (∀ x ∈ l, 0 < x) → 1 ≤ fold l
  | [], h, _ => absurd rfl h
  | [x], _, h => by
    have := h x (by simp)
    show (1 : Rat) ≤ (x : Rat)
    have h2 : ((1 : Int) : Rat) ≤ (x : Rat) := Rat.intCast_le_intCast.2 (by omega)
    exact h2
  | x :: y :: xs, _, h => by
    have ih := fold_ge_one (y :: xs) (by simp) (fun z hz => h z (by simp [hz]))
    have hx := h x (by simp)
    have h2 : ((1 : Int) : Rat) ≤ (x : Rat) := Rat.intCast_le_intCast.2 (by omega)
    have h3 : (0 : Rat) < fold (y :: xs) := by
      have : (0 : Rat) < 1 := by decide
      grind
    have h4 : (0 : Rat) ≤ (fold (y :: xs))⁻¹ := Rat.le_of_lt (Rat.inv_pos.2 h3)
    show (1 : Rat) ≤ (x : Rat) + (fold (y :: xs))⁻¹
    have h5 : (1 : Rat) ≤ (x : Rat) := h2
    grind

theorem ge_one_num {q : Rat} (h : 1 ≤ q) : (q.den : Int) ≤ q.num := by
  have := (Rat.le_iff 1 q).1 h
  simpa using this

/-- x + 1/q: num and den. -/
theorem add_inv_parts {q : Rat} (x : Int) (h : 1 ≤ q) : (x : Rat) + q⁻¹ = mkRat (x * q.num + q.den) q.num.natAbs := by
  have hn := ge_one_num h
  have hd := q.den_nz
  rw [Rat.add_def', Rat.num_intCast, Rat.den_intCast, Rat.num_inv, Rat.den_inv, if_neg (by omega), Int.sign_eq_one_of_pos (by omega)]
  congr 1
  · simp only [Int.one_mul]
    have : (q.num.natAbs : Int) = q.num := by omega
    rw [this]; simp
  · simp

theorem LZ_step (x : Int) {q : Rat} (h : 1 ≤ q) : LQ ((x : Rat) + q⁻¹) ≤ 2 * (LZ q.num) + LZ x + 2 ∧ (0 < x → LZ ((x : Rat) + q⁻¹).num ≤ LZ q.num + LZ x + 1) := by
  have hn := ge_one_num h
  have hd := q.den_nz
  rw [add_inv_parts x h]
  have h1 : LZ (x * q.num + q.den) ≤ LZ q.num + LZ x + 1 := by
    have a1 := LZ_mul x q.num
    have a2 : LZ (q.den : Int) ≤ LZ q.num := by
      unfold LZ
      exact L_mono (by omega)
    have a3 := LZ_add (x * q.num) q.den
    omega
  have h2 := LQ_mkRat (x * q.num + q.den) q.num.natAbs
  have h3 : L q.num.natAbs = LZ q.num := rfl
  have h4 : 1 ≤ LZ q.num := L_pos (by omega)
  refine ⟨by omega, fun _ => ?_⟩
  rw [Rat.num_mkRat, if_neg (by omega)]
  exact Nat.le_trans (L_mono (Int.natAbs_ediv_le_natAbs _ _)) h1

theorem fold_size : ∀ (l : List Int), (∀ x ∈ l.drop 1, 0 < x) → LQ (fold l) ≤ 3 * cost l + 1 ∧ ((∀ x ∈ l, 0 < x) → LZ (fold l).num ≤ cost l)
  | [], _ => by
    show LQ 0 ≤ _ ∧ _
    rw [LQ_zero]
    exact ⟨by omega, fun _ => by show LZ 0 ≤ _; rw [LZ_zero]; omega⟩
  | [x], _ => by
    show LQ (x : Rat) ≤ _ ∧ (_ → LZ ((x : Rat)).num ≤ _)
    unfold LQ
    rw [Rat.num_intCast, Rat.den_intCast, L_one]
    simp only [cost]
    exact ⟨by omega, fun _ => by omega⟩
  | x :: y :: xs, h => by
    have hp : ∀ z ∈ y :: xs, 0 < z := fun z hz => h z (by simpa using hz)
    have ih := fold_size (y :: xs) (fun z hz => hp z (List.mem_of_mem_drop hz))
    have h1 := fold_ge_one (y :: xs) (by simp) hp
    have h2 := LZ_step x h1
    have h3 := ih.2 hp
    have e : fold (x :: y :: xs) = (x : Rat) + (fold (y :: xs))⁻¹ := rfl
    rw [e]
    have ec : cost (x :: y :: xs) = LZ x + 2 + cost (y :: xs) := rfl
    rw [ec]
    exact ⟨by omega, fun h4 => by have := h2.2 (h4 x (by simp)); omega⟩

theorem cost_drop : ∀ (l : List Int) (i : Nat), cost (l.drop i) ≤ cost l
  | [], _ => by simp
  | _ :: _, 0 => Nat.le_refl _
  | x :: xs, i + 1 => by
    have := cost_drop xs i
    simp only [List.drop_succ_cons, cost]
    omega

theorem drop_cons {l : List Int} {i : Nat} (h : i < l.length) : l.drop i = nthD 0 l i :: l.drop (i + 1) := by
  rw [List.drop_eq_getElem_cons h, nthD_eq, List.getD_eq_getElem?_getD]
  simp [h]

theorem LZ_get (l : List Int) (i : Nat) : LZ (nthD 0 l i) ≤ cost l := by
  by_cases h : i < l.length
  · have h1 := cost_drop l i
    rw [drop_cons h] at h1
    simp only [cost] at h1
    omega
  · rw [nthD_eq, List.getD_eq_getElem?_getD, show l[i]? = none from List.getElem?_eq_none (by omega)]
    simp [LZ_zero]

section
variable {M : Nat} {l : List (Bool × List Int)}

/-- The loops downward, the program's and the reference's: the fraction from place i + 1 on is told. -/
theorem fold_p4 (hl : Ls M l) (hM : M ≤ 1048576) (hlen : l.length ≤ 1048576) (hc : cost (zs l) ≤ 4194304) (hpos : ∀ x ∈ (zs l).drop 1, 0 < x) (w : RR) : ∀ (i : Nat), i < l.length →
    Ev (fun k => ratio_Fold.p4 k w (rat (fold ((zs l).drop i))) l ((i : Int) - 1)) (rat (fold (zs l)), (0 : Int)) ∧ Ev (fun k => ref03_Fold.p4 k w (rat (fold ((zs l).drop i))) l ((i : Int) - 1)) (rat (fold (zs l)), (0 : Int)) := by
  have hzl : (zs l).length = l.length := by simp [zs]
  intro i
  induction i with
  | zero =>
    intro _
    rw [List.drop_zero]
    constructor
    · refine Ev.turn (fun k => ratio_Fold.p4_succ k _ _ _ _) ?_
      unfold ratio_Fold.e4
      exact Ev.fls (by simp) Ev.pure
    · refine Ev.turn (fun k => ref03_Fold.p4_succ k _ _ _ _) ?_
      unfold ref03_Fold.e4
      exact Ev.fls (by simp) Ev.pure
  | succ i ih =>
    intro hi
    obtain ⟨ih1, ih2⟩ := ih (by omega)
    have e0 : ((i + 1 : Nat) : Int) - 1 = (i : Int) := by omega
    have e1 : IntKind.i64.wrap ((i : Int) - 1) = (i : Int) - 1 := wrap_i64 (by omega) (by omega)
    have hd : (zs l).drop i = nthD 0 (zs l) i :: nthD 0 (zs l) (i + 1) :: (zs l).drop (i + 2) := by
      rw [drop_cons (by omega), drop_cons (by omega)]
    have hd1 : (zs l).drop (i + 1) = nthD 0 (zs l) (i + 1) :: (zs l).drop (i + 2) := drop_cons (by omega)
    have hf : fold ((zs l).drop i) = ((nthD 0 (zs l) i : Int) : Rat) + (fold ((zs l).drop (i + 1)))⁻¹ := by rw [hd, hd1]; rfl
    have hp1 : ∀ x ∈ (zs l).drop (i + 1), 0 < x := fun x hx => hpos x (by
      rw [show (zs l).drop (i + 1) = ((zs l).drop 1).drop i by rw [List.drop_drop, Nat.add_comm]] at hx
      exact List.mem_of_mem_drop hx)
    have hge := fold_ge_one ((zs l).drop (i + 1)) (by rw [hd1]; simp) hp1
    have hsz := (fold_size ((zs l).drop (i + 1)) (fun x hx => hp1 x (List.mem_of_mem_drop hx))).1
    have hcd := cost_drop (zs l) (i + 1)
    have hne : fold ((zs l).drop (i + 1)) ≠ 0 := by
      intro h
      rw [h] at hge
      exact absurd hge (by decide)
    rw [hf] at ih1 ih2
    generalize fold ((zs l).drop (i + 1)) = q at *
    have hq : Rt 20000000 (rat q) q := Rt.of (by omega)
    have hqi : Rt 20000000 (rat q⁻¹) q⁻¹ := Rt.of (by have := LQ_inv q; omega)
    have hx := hl.get i
    have hxr : Rt 20000000 (rat ((nthD 0 (zs l) i : Int) : Rat)) ((nthD 0 (zs l) i : Int) : Rat) := Rt.of (by
      unfold LQ
      rw [Rat.num_intCast, Rat.den_intCast, L_one]
      have := hx.LZ; omega)
    constructor
    · refine Ev.turn (fun k => ratio_Fold.p4_succ k _ _ _ _) ?_
      unfold ratio_Fold.e4
      simp only [e0, e1, Int.toNat_natCast]
      refine Ev.tru (by simp) (Ev.bind (hq.inv (by omega) (by omega) hne) (Ev.tru (by simp; omega) (Ev.bind (hx.rof (by omega)) (Ev.bind (hxr.add hqi (by omega) (by omega)) ?_))))
      exact ih1
    · refine Ev.turn (fun k => ref03_Fold.p4_succ k _ _ _ _) ?_
      unfold ref03_Fold.e4
      simp only [e0, e1, Int.toNat_natCast]
      refine Ev.tru (by simp) (Ev.bind (hq.rinv (by omega) (by omega) hne) (Ev.tru (by simp; omega) (Ev.bind ((hx.mono (M' := M + 1) (by omega)).rint (by omega) (by omega)) (Ev.bind (hxr.radd hqi (by omega) (by omega)) ?_))))
      exact ih2

theorem sign_lt_one (z : Int) : z.sign < 1 ↔ z ≤ 0 := by
  rcases Int.lt_trichotomy z 0 with h | h | h
  · rw [Int.sign_eq_neg_one_of_neg h]; omega
  · rw [h]; decide
  · rw [Int.sign_eq_one_of_pos h]; omega

theorem pos_of_get {l : List Int} (h : ∀ i, 1 ≤ i → i < l.length → 0 < nthD 0 l i) : ∀ x ∈ l.drop 1, 0 < x := by
  intro x hx
  obtain ⟨i, hi, rfl⟩ := List.mem_iff_getElem.1 hx
  simp only [List.length_drop] at hi
  have := h (1 + i) (by omega) (by omega)
  rw [nthD_eq, List.getD_eq_getElem?_getD] at this
  rw [List.getElem_drop]
  simpa [show 1 + i < l.length by omega] using this
theorem get_of_pos {l : List Int} (h : ∀ x ∈ l.drop 1, 0 < x) {i : Nat} (h1 : 1 ≤ i) (h2 : i < l.length) : 0 < nthD 0 l i := by
  apply h
  rw [nthD_eq, List.getD_eq_getElem?_getD]
  simp only [h2, List.getElem?_eq_getElem, Option.getD_some]
  apply List.mem_iff_getElem.2
  refine ⟨i - 1, by simp; omega, ?_⟩
  rw [List.getElem_drop]
  congr 1
  omega

def foldR (l : List (Bool × List Int)) : RR × Int := if (∀ x ∈ (zs l).drop 1, 0 < x) then (rat (fold (zs l)), 0) else (noRat, 1)

theorem nthD_drop' {α : Type} (d : α) (l : List α) (m j : Nat) : nthD d (l.drop m) j = nthD d l (m + j) := by
  rw [nthD_eq, nthD_eq, List.getD_eq_getElem?_getD, List.getD_eq_getElem?_getD, List.getElem?_drop]

theorem fold_end (l : List (Bool × List Int)) (h : 0 < l.length) : fold ((zs l).drop (l.length - 1)) = ((nthD 0 (zs l) (l.length - 1) : Int) : Rat) := by
  have hzl : (zs l).length = l.length := by simp [zs]
  rw [drop_cons (by omega), List.drop_of_length_le (by omega)]
  rfl

theorem fold_p0 (hl : Ls M l) (hM : M ≤ 1048576) (hlen : l.length ≤ 1048576) (hc : cost (zs l) ≤ 4194304) (h0 : 0 < l.length) (w : RR) : ∀ (m i : Nat), m + i = l.length - 1 → (∀ j, 1 ≤ j → j < 1 + i → 0 < nthD 0 (zs l) j) →
    Ev (fun k => ratio_Fold.p0 k w l (l.drop 1) ((l.length - 1 : Nat) : Int) (i : Int)) (foldR l) := by
  have hzl : (zs l).length = l.length := by simp [zs]
  intro m
  induction m with
  | zero =>
    intro i hi hp
    have hpos := pos_of_get (l := zs l) (fun j h1 h2 => hp j h1 (by omega))
    refine Ev.turn (fun k => ratio_Fold.p0_succ k _ _ _ _ _) ?_
    unfold ratio_Fold.e0
    have e1 : IntKind.i64.wrap ((l.length : Int) - 1) = ((l.length - 1 : Nat) : Int) := by rw [wrap_i64 (by omega) (by omega)]; omega
    have e2 : IntKind.i64.wrap ((l.length : Int) - 2) = ((l.length - 1 : Nat) : Int) - 1 := by rw [wrap_i64 (by omega) (by omega)]; omega
    simp only [e1, e2, Int.toNat_natCast]
    refine Ev.fls (dec_f (by omega)) (Ev.tru (by simp; omega) (Ev.bind ((hl.get (l.length - 1)).rof (by omega)) ?_))
    have := (fold_p4 hl hM hlen hc hpos w (l.length - 1) (by omega)).1
    rw [fold_end l h0] at this
    unfold foldR
    rw [if_pos hpos]
    exact this
  | succ m ih =>
    intro i hi hp
    refine Ev.turn (fun k => ratio_Fold.p0_succ k _ _ _ _ _) ?_
    unfold ratio_Fold.e0
    have e1 : IntKind.i64.wrap ((i : Int) + 1) = ((i + 1 : Nat) : Int) := by rw [wrap_i64 (by omega) (by omega)]; omega
    have hx := hl.get (1 + i)
    have e3 : nthD (false, ([] : List Int)) (l.drop 1) i = nthD z0 l (1 + i) := nthD_drop' _ _ _ _
    simp only [e1, Int.toNat_natCast, e3]
    refine Ev.tru (dec_t (by omega)) (Ev.tru (by simp; omega) (Ev.bind (hx.sign (by omega)) ?_))
    by_cases h : nthD 0 (zs l) (1 + i) ≤ 0
    · refine Ev.tru (dec_t ((sign_lt_one _).2 h)) ?_
      unfold foldR
      rw [if_neg (fun h2 => by have := get_of_pos h2 (i := 1 + i) (by omega) (by omega); omega)]
      exact Ev.pure
    · refine Ev.fls (dec_f (by rw [sign_lt_one]; exact h)) (ih (i + 1) (by omega) fun j h1 h2 => ?_)
      by_cases hj : j = 1 + i
      · subst hj; omega
      · exact hp j h1 (by omega)

theorem rfold_p0 (hl : Ls M l) (hM : M ≤ 1048576) (hlen : l.length ≤ 1048576) (hc : cost (zs l) ≤ 4194304) (h0 : 0 < l.length) (w : RR) : ∀ (m i : Nat), m + i = l.length → 1 ≤ i → (∀ j, 1 ≤ j → j < i → 0 < nthD 0 (zs l) j) →
    Ev (fun k => ref03_Fold.p0 k w l (i : Int)) (foldR l) := by
  have hzl : (zs l).length = l.length := by simp [zs]
  intro m
  induction m with
  | zero =>
    intro i hi _ hp
    have hpos := pos_of_get (l := zs l) (fun j h1 h2 => hp j h1 (by omega))
    refine Ev.turn (fun k => ref03_Fold.p0_succ k _ _ _) ?_
    unfold ref03_Fold.e0
    have e1 : IntKind.i64.wrap ((l.length : Int) - 1) = ((l.length - 1 : Nat) : Int) := by rw [wrap_i64 (by omega) (by omega)]; omega
    have e2 : IntKind.i64.wrap ((l.length : Int) - 2) = ((l.length - 1 : Nat) : Int) - 1 := by rw [wrap_i64 (by omega) (by omega)]; omega
    simp only [e1, e2, Int.toNat_natCast]
    refine Ev.fls (dec_f (by omega)) (Ev.tru (by simp; omega) (Ev.bind (((hl.get (l.length - 1)).mono (M' := M + 1) (by omega)).rint (by omega) (by omega)) ?_))
    have := (fold_p4 hl hM hlen hc hpos w (l.length - 1) (by omega)).2
    rw [fold_end l h0] at this
    unfold foldR
    rw [if_pos hpos]
    exact this
  | succ m ih =>
    intro i hi h1i hp
    refine Ev.turn (fun k => ref03_Fold.p0_succ k _ _ _) ?_
    unfold ref03_Fold.e0
    have e1 : IntKind.i64.wrap ((i : Int) + 1) = ((i + 1 : Nat) : Int) := by rw [wrap_i64 (by omega) (by omega)]; omega
    have hx := hl.get i
    simp only [e1, Int.toNat_natCast]
    refine Ev.tru (dec_t (by omega)) (Ev.tru (by simp; omega) (Ev.bind (hx.rsign (by omega)) ?_))
    by_cases h : nthD 0 (zs l) i ≤ 0
    · refine Ev.tru (dec_t ((sign_lt_one _).2 h)) ?_
      unfold foldR
      rw [if_neg (fun h2 => by have := get_of_pos h2 (i := i) (by omega) (by omega); omega)]
      exact Ev.pure
    · refine Ev.fls (dec_f (by rw [sign_lt_one]; exact h)) (ih (i + 1) (by omega) (by omega) fun j h1 h2 => ?_)
      by_cases hj : j = i
      · subst hj; omega
      · exact hp j h1 (by omega)

def foldA (l : List (Bool × List Int)) : RR × Int := if l = [] then (noRat, 1) else foldR l

theorem fold_ev (hl : Ls M l) (hM : M ≤ 1048576) (hlen : l.length ≤ 1048576) (hc : cost (zs l) ≤ 4194304) : Ev (fun k => ratio_Fold.f k l) (foldA l) := by
  unfold ratio_Fold.f ratio_Fold.e foldA
  by_cases h : l = []
  · subst h
    exact Ev.tru (by simp) Ev.pure
  · have h0 : 0 < l.length := List.length_pos_iff.2 h
    rw [if_neg h]
    have e1 : List.drop (Int.toNat 1) (List.take (Int.toNat (l.length : Int)) l) = l.drop 1 := by rw [Int.toNat_natCast, List.take_length]; rfl
    have e2 : ((l.drop 1).length : Int) = ((l.length - 1 : Nat) : Int) := by simp
    simp only [e1, e2]
    refine Ev.fls (dec_f (by omega)) (Ev.tru (by simp; omega) ?_)
    exact fold_p0 hl hM hlen hc h0 _ (l.length - 1) 0 (by omega) (fun j h1 h2 => by omega)
theorem rfold_ev (hl : Ls M l) (hM : M ≤ 1048576) (hlen : l.length ≤ 1048576) (hc : cost (zs l) ≤ 4194304) : Ev (fun k => ref03_Fold.f k l) (foldA l) := by
  unfold ref03_Fold.f ref03_Fold.e foldA
  by_cases h : l = []
  · subst h
    exact Ev.tru (by simp) Ev.pure
  · have h0 : 0 < l.length := List.length_pos_iff.2 h
    rw [if_neg h]
    refine Ev.fls (dec_f (by omega)) ?_
    exact rfold_p0 hl hM hlen hc h0 _ (l.length - 1) 1 (by omega) (by omega) (fun j h1 h2 => by omega)

theorem foldA_cases (hl : Ls M l) (hM : M ≤ 1048576) (hc : cost (zs l) ≤ 4194304) : foldA l = (noRat, 1) ∨ ∃ q, foldA l = (rat q, 0) ∧ LQ q ≤ 20000000 ∧ q = fold (zs l) := by
  unfold foldA
  by_cases h : l = []
  · exact Or.inl (by rw [if_pos h])
  rw [if_neg h]
  unfold foldR
  by_cases h2 : ∀ x ∈ (zs l).drop 1, 0 < x
  · rw [if_pos h2]
    exact Or.inr ⟨_, rfl, by have := (fold_size (zs l) h2).1; omega, rfl⟩
  · rw [if_neg h2]
    exact Or.inl rfl

theorem folds_p21 (x : RR) : Ev (fun k => law03_RatioFolds.p21 k x) true := by
  refine Ev.turn (fun k => law03_RatioFolds.p21_succ k _) ?_
  unfold law03_RatioFolds.e21
  have hl : Ls 10 [(false, ([] : List Int)), (false, [(2 : Int)])] := by
    intro x hx
    simp only [List.mem_cons, List.not_mem_nil, or_false] at hx
    rcases hx with rfl | rfl
    · exact ⟨Lim.nil, by simp⟩
    · exact ⟨Lim.mk (by simp [B]) Lim.nil, by simp⟩
  have hz : zs [(false, ([] : List Int)), (false, [(2 : Int)])] = [0, 2] := by simp [zs, Zv, V]
  have hc : cost (zs [(false, ([] : List Int)), (false, [(2 : Int)])]) ≤ 4194304 := by
    rw [hz]
    simp only [cost, LZ_zero]
    have := L_small (n := (2 : Int).natAbs) (by decide)
    unfold LZ
    omega
  have hf := fold_ev hl (by omega) (by simp) hc
  have hA : foldA [(false, ([] : List Int)), (false, [(2 : Int)])] = (rat (mkRat 1 2), 0) := by
    unfold foldA foldR
    rw [if_neg (by simp), hz, if_pos (by simp)]
    have : fold [0, 2] = mkRat 1 2 := by
      show ((0 : Int) : Rat) + ((2 : Int) : Rat)⁻¹ = _
      decide +kernel
    rw [this]
  rw [hA] at hf
  have hh := half_rt (M := 10) (by omega)
  refine Ev.bind hf (Ev.tru rfl (Ev.bind (hh.rnorm (by omega)) ?_))
  exact Ev.bind (same_rat (M := 100) (Nat.le_trans (hh.LQ (by omega)) (by omega)) (by omega)) Ev.pure

theorem folds_p0 (hl : Ls M l) (hM : M ≤ 1048576) (hlen : l.length ≤ 1048576) (hc : cost (zs l) ≤ 4194304) : ∀ (m i : Nat) (c : List (Bool × List Int)), m + i = l.length → c.length = l.length → c.take i = l.take i →
    Ev (fun k => law03_RatioFolds.p0 k c l (i : Int)) true := by
  intro m
  induction m with
  | zero =>
    intro i c hi hcl ht
    have hcl : c = l := by rw [List.take_of_length_le (by omega), List.take_of_length_le (by omega)] at ht; exact ht
    subst hcl
    refine Ev.turn (fun k => law03_RatioFolds.p0_succ k _ _ _) ?_
    unfold law03_RatioFolds.e0
    refine Ev.fls (dec_f (by omega)) (Ev.bind (fold_ev hl hM hlen hc) (Ev.bind (rfold_ev hl hM hlen hc) ?_))
    rcases foldA_cases hl hM hc with h | ⟨q, h, hq, _⟩
    · rw [h]
      exact Ev.fls (by simp) (Ev.fls (by simp) (Ev.tru (by simp) (Ev.bind none_noRat (Ev.fls (by simp) (folds_p21 _)))))
    · rw [h]
      exact Ev.fls (by simp) (Ev.tru (by simp) (Ev.bind (same_rat hq (by omega)) (Ev.fls (by simp) (Ev.fls (by simp) (folds_p21 _)))))
  | succ m ih =>
    intro i c hi hcl ht
    refine Ev.turn (fun k => law03_RatioFolds.p0_succ k _ _ _) ?_
    unfold law03_RatioFolds.e0
    have e1 : IntKind.i64.wrap ((i : Int) + 1) = ((i + 1 : Nat) : Int) := by rw [wrap_i64 (by omega) (by omega)]; omega
    have hx := (hl.get i).len
    have hw : Ev (fun k => law03_whole.f k (nthD z0 l i)) (nthD z0 l i) := by
      unfold law03_whole.f law03_whole.e
      exact Ev.bind (law03_nat_ev (nthD z0 l i).2 (by omega)) Ev.pure
    simp only [e1, Int.toNat_natCast]
    refine Ev.tru (dec_t (by omega)) (Ev.tru (by simp; omega) (Ev.bind hw (Ev.tru (by simp; omega) ?_)))
    refine ih (i + 1) _ (by omega) (by rw [length_setN]; exact hcl) ?_
    apply List.ext_getElem?
    intro j
    rw [List.getElem?_take, List.getElem?_take, setN_eq, List.getElem?_set]
    have hj := congrArg (fun z => z[j]?) ht
    simp only [List.getElem?_take] at hj
    by_cases hlt : j < i + 1
    · rw [if_pos hlt, if_pos hlt]
      by_cases h1 : i = j
      · subst h1
        rw [if_pos rfl, if_pos (by omega), nthD_eq, List.getD_eq_getElem?_getD]
        simp [show i < l.length by omega]
      · rw [if_neg h1]
        rw [if_pos (by omega), if_pos (by omega)] at hj
        exact hj
    · rw [if_neg hlt, if_neg hlt]

theorem folds_ev (hl : Ls M l) (hM : M ≤ 1048576) (hlen : l.length ≤ 1048576) (hc : cost (zs l) ≤ 4194304) : Ev (fun k => law03_RatioFolds.f k l) true := by
  unfold law03_RatioFolds.f law03_RatioFolds.e
  refine Ev.tru (by simp; omega) ?_
  exact folds_p0 hl hM hlen hc l.length 0 _ (by omega) (by simp) (by simp)
end

theorem cost_le : ∀ (l : List (Bool × List Int)), (∀ x ∈ l, tyInt.wf x) → cost (zs l) ≤ (l.map tyInt.mass).sum ∧ l.length ≤ (l.map tyInt.mass).sum
  | [], _ => by simp [zs, cost]
  | x :: xs, h => by
    have ih := cost_le xs (fun y hy => h y (by simp [hy]))
    have hx : tyNat.wf x.2 := (h x (by simp)).2
    have hm : tyInt.mass x = 1 + tyNat.mass x.2 := rfl
    rw [nat_mass] at hm
    have hz : Zt x.2.length x (Zv x) := ⟨nat_wf hx, rfl, Nat.le_refl _⟩
    have := hz.LZ
    simp only [zs, List.map_cons, cost, List.sum_cons, List.length_cons] at ih ⊢
    omega

theorem le_sum_of_mem : ∀ {l : List Nat} {x : Nat}, x ∈ l → x ≤ l.sum
  | y :: ys, x, h => by
    rcases List.mem_cons.1 h with h | h
    · subst h; simp
    · have := le_sum_of_mem h
      simp only [List.sum_cons]
      omega

theorem folds_math (x : TD [.list tyInt]) (hw : wfDs (encT [.list tyInt] x)) (hm : massDs (encT [.list tyInt] x) ≤ 1048576) : ∃ k, law03_RatioFolds.f k x = some true := by
  have hw' : ∀ y ∈ (x : List (Bool × List Int)), tyInt.wf y := hw.1.2
  have hm' : (((x : List (Bool × List Int)).map tyInt.mass).sum + 1) + 0 ≤ 1048576 := hm
  have h := cost_le x hw'
  have hl : Ls 1048576 (x : List (Bool × List Int)) := by
    intro y hy
    have h1 : tyNat.wf y.2 := (hw' y hy).2
    refine ⟨nat_wf h1, ?_⟩
    have h2 : tyInt.mass y ≤ ((x : List (Bool × List Int)).map tyInt.mass).sum := by
      exact le_sum_of_mem (List.mem_map_of_mem hy)
    have h3 : tyInt.mass y = 1 + tyNat.mass y.2 := rfl
    rw [nat_mass] at h3
    omega
  exact (folds_ev hl (by omega) (by omega) (by omega)).some

end Go.FK
