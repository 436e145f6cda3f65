import Derived.Test.YtllpdchpjhgkgaaDoorM2
import Derived.Test.YtllpdchpjhgkgaaDoorF3

/- The plain law: what comes in, what the laws use. -/
namespace Go.FK

abbrev tyNat : Ty := .list (.int .u32)
abbrev tyInt : Ty := .st (.pair .bool tyNat)
abbrev tyRat : Ty := .st (.pair tyInt tyNat)

theorem nat_wf {a : List Int} (h : tyNat.wf a) : Lim a := by
  intro x hx
  have h2 : IntKind.u32.min ≤ x ∧ x ≤ IntKind.u32.max := h.2 x hx
  have e1 : IntKind.u32.min = 0 := by decide
  have e2 : IntKind.u32.max = 4294967295 := by decide
  rw [e1, e2] at h2
  simp only [B]
  omega
theorem nat_mass (a : List Int) : tyNat.mass a = a.length + 1 := by
  have : ∀ l : List Int, (l.map fun _ => 1).sum = l.length := by
    intro l
    induction l with
    | nil => rfl
    | cons x xs ih => simp only [List.map_cons, List.sum_cons, ih, List.length_cons]; omega
  show (a.map fun _ => 1).sum + 1 = _
  rw [this]
theorem rat_rt {r : RR} (h : tyRat.wf r) {M : Nat} (hM : tyRat.mass r ≤ M) : Rt M r (Qv r) := by
  have h1 : tyNat.wf r.1.2 := h.1.2
  have h2 : tyNat.wf r.2 := h.2
  have hm : tyRat.mass r = (1 + tyNat.mass r.1.2) + tyNat.mass r.2 := rfl
  rw [nat_mass, nat_mass] at hm
  exact ⟨nat_wf h1, nat_wf h2, by omega, by omega, rfl⟩

theorem Rt.twin {M : Nat} {r : RR} {q : Rat} (h : Rt M r q) (hM : M ≤ 70368744177664) : Ev (fun k => law03_twin.f k r) r := by
  have h1 := h.nlen
  have h2 := h.dlen
  have hw : Ev (fun k => law03_whole.f k r.1) r.1 := by
    unfold law03_whole.f law03_whole.e
    exact Ev.bind (law03_nat_ev r.1.2 (by omega)) Ev.pure
  unfold law03_twin.f law03_twin.e
  exact Ev.bind hw (Ev.bind (law03_nat_ev r.2 (by omega)) Ev.pure)

theorem same_rat {M : Nat} {q : Rat} (h : LQ q ≤ M) (hM : M ≤ 35184372088832) : Ev (fun k => law03_same.f k (rat q) (rat q)) true := by
  unfold law03_same.f law03_same.e
  have h1 := LQ_num q
  have h2 := LQ_den q
  have := r3Same_ev (rat q) (rat q) (by show L q.num.natAbs ≤ _; unfold LZ at h1; omega) (by show L q.den ≤ _; omega)
  rw [dec_t rfl] at this
  exact Ev.bind this Ev.pure
end Go.FK


/- The plain law: RatioQuotients and RatioSums. -/
namespace Go.FK

end Go.FK


/- The plain law: RatioFolds. -/
namespace Go.FK

/-- The numbers that Go's data say. -/
def zs (l : List (Bool × List Int)) : List Int := l.map Zv

def z0 : Bool × List Int := (false, [])

theorem nthD_map_zv : ∀ (l : List (Bool × List Int)) (i : Nat), Zv (nthD z0 l i) = nthD 0 (zs l) i
  | [], _ => by simp [nthD, zs, z0, Zv, V]
  | x :: xs, 0 => rfl
  | x :: xs, i + 1 => nthD_map_zv xs i

/-- A list of numbers in Go's hands: all of at most M limbs. -/
def Ls (M : Nat) (l : List (Bool × List Int)) : Prop := ∀ x ∈ l, Lim x.2 ∧ x.2.length ≤ M

theorem Ls.get {M : Nat} {l : List (Bool × List Int)} (h : Ls M l) (i : Nat) : Zt M (nthD z0 l i) (nthD 0 (zs l) i) := by
  rw [← nthD_map_zv]
  rw [nthD_eq, List.getD_eq_getElem?_getD]
  by_cases hi : i < l.length
  · simp only [hi, List.getElem?_eq_getElem, Option.getD_some]
    have := h _ (List.getElem_mem hi)
    exact ⟨this.1, rfl, this.2⟩
  · simp only [show l[i]? = none from List.getElem?_eq_none (by omega), Option.getD_none]
    exact ⟨Lim.nil, rfl, Nat.zero_le _⟩

/-- A continued fraction's number, from a place on. -/
def fold : List Int → Rat
  | [] => 0
  | [x] => x
  | x :: y :: xs => x + (fold (y :: xs))⁻¹

/-- The size of what is folded. -/
def cost : List Int → Nat
  | [] => 0
  | x :: xs => LZ x + 2 + cost xs

theorem fold_ge_one : ∀ (l : List Int), l ≠ [] → (∀ x ∈ l, 0 < x) → 1 ≤ fold l
  | [], h, _ => absurd rfl h
  | [x], _, h => by
    have := h x (by simp)
    show (1 : Rat) ≤ (x : Rat)
    have h2 : ((1 : Int) : Rat) ≤ (x : Rat) := Rat.intCast_le_intCast.2 (by omega)
    exact h2
  | x :: y :: xs, _, h => by
    have ih := fold_ge_one (y :: xs) (by simp) (fun z hz => h z (by simp [hz]))
    have hx := h x (by simp)
    have h2 : ((1 : Int) : Rat) ≤ (x : Rat) := Rat.intCast_le_intCast.2 (by omega)
    have h3 : (0 : Rat) < fold (y :: xs) := by
      have : (0 : Rat) < 1 := by decide
      grind
    have h4 : (0 : Rat) ≤ (fold (y :: xs))⁻¹ := Rat.le_of_lt (Rat.inv_pos.2 h3)
    show (1 : Rat) ≤ (x : Rat) + (fold (y :: xs))⁻¹
    have h5 : (1 : Rat) ≤ (x : Rat) := h2
    grind

theorem ge_one_num {q : Rat} (h : 1 ≤ q) : (q.den : Int) ≤ q.num := by
  have := (Rat.le_iff 1 q).1 h
  simpa using this

/-- x + 1/q: num and den. -/
theorem add_inv_parts {q : Rat} (x : Int) (h : 1 ≤ q) : (x : Rat) + q⁻¹ = mkRat (x * q.num + q.den) q.num.natAbs := by
  have hn := ge_one_num h
  have hd := q.den_nz
  rw [Rat.add_def', Rat.num_intCast, Rat.den_intCast, Rat.num_inv, Rat.den_inv, if_neg (by omega), Int.sign_eq_one_of_pos (by omega)]
  congr 1
  · simp only [Int.one_mul]
    have : (q.num.natAbs : Int) = q.num := by omega
    rw [this]; simp
  · simp

theorem LZ_step (x : Int) {q : Rat} (h : 1 ≤ q) : LQ ((x : Rat) + q⁻¹) ≤ 2 * (LZ q.num) + LZ x + 2 ∧ (0 < x → LZ ((x : Rat) + q⁻¹).num ≤ LZ q.num + LZ x + 1) := by
  have hn := ge_one_num h
  have hd := q.den_nz
  rw [add_inv_parts x h]
  have h1 : LZ (x * q.num + q.den) ≤ LZ q.num + LZ x + 1 := by
    have a1 := LZ_mul x q.num
    have a2 : LZ (q.den : Int) ≤ LZ q.num := by
      unfold LZ
      exact L_mono (by omega)
    have a3 := LZ_add (x * q.num) q.den
    omega
  have h2 := LQ_mkRat (x * q.num + q.den) q.num.natAbs
  have h3 : L q.num.natAbs = LZ q.num := rfl
  have h4 : 1 ≤ LZ q.num := L_pos (by omega)
  refine ⟨by omega, fun _ => ?_⟩
  rw [Rat.num_mkRat, if_neg (by omega)]
  exact Nat.le_trans (L_mono (Int.natAbs_ediv_le_natAbs _ _)) h1

theorem fold_size : ∀ (l : List Int), (∀ x ∈ l.drop 1, 0 < x) → LQ (fold l) ≤ 3 * cost l + 1 ∧ ((∀ x ∈ l, 0 < x) → LZ (fold l).num ≤ cost l)
  | [], _ => by
    show LQ 0 ≤ _ ∧ _
    rw [LQ_zero]
    exact ⟨by omega, fun _ => by show LZ 0 ≤ _; rw [LZ_zero]; omega⟩
  | [x], _ => by
    show LQ (x : Rat) ≤ _ ∧ (_ → LZ ((x : Rat)).num ≤ _)
    unfold LQ
    rw [Rat.num_intCast, Rat.den_intCast, L_one]
    simp only [cost]
    exact ⟨by omega, fun _ => by omega⟩
  | x :: y :: xs, h => by
    have hp : ∀ z ∈ y :: xs, 0 < z := fun z hz => h z (by simpa using hz)
    have ih := fold_size (y :: xs) (fun z hz => hp z (List.mem_of_mem_drop hz))
    have h1 := fold_ge_one (y :: xs) (by simp) hp
    have h2 := LZ_step x h1
    have h3 := ih.2 hp
    have e : fold (x :: y :: xs) = (x : Rat) + (fold (y :: xs))⁻¹ := rfl
    rw [e]
    have ec : cost (x :: y :: xs) = LZ x + 2 + cost (y :: xs) := rfl
    rw [ec]
    exact ⟨by omega, fun h4 => by have := h2.2 (h4 x (by simp)); omega⟩

theorem cost_drop : ∀ (l : List Int) (i : Nat), cost (l.drop i) ≤ cost l
  | [], _ => by simp
  | _ :: _, 0 => Nat.le_refl _
  | x :: xs, i + 1 => by
    have := cost_drop xs i
    simp only [List.drop_succ_cons, cost]
    omega

theorem drop_cons {l : List Int} {i : Nat} (h : i < l.length) : l.drop i = nthD 0 l i :: l.drop (i + 1) := by
  rw [List.drop_eq_getElem_cons h, nthD_eq, List.getD_eq_getElem?_getD]
  simp [h]

section
variable {M : Nat} {l : List (Bool × List Int)}

/-- The loop downward, the program's: the fraction from place i + 1 on is told. -/
theorem fold_p4 (hl : Ls M l) (hM : M ≤ 4194304) (hlen : l.length ≤ 1000000000) (hc : cost (zs l) ≤ 4000000000) (hpos : ∀ x ∈ (zs l).drop 1, 0 < x) (w : RR) : ∀ (i : Nat), i < l.length →
    Ev (fun k => ratio_Fold.p4 k w (rat (fold ((zs l).drop i))) l ((i : Int) - 1)) (rat (fold (zs l)), (0 : Int)) := by
  have hzl : (zs l).length = l.length := by simp [zs]
  intro i
  induction i with
  | zero =>
    intro _
    rw [List.drop_zero]
    refine Ev.turn (fun k => ratio_Fold.p4_succ k _ _ _ _) ?_
    unfold ratio_Fold.e4
    exact Ev.fls (by simp) Ev.pure
  | succ i ih =>
    intro hi
    have ih1 := ih (by omega)
    have e0 : ((i + 1 : Nat) : Int) - 1 = (i : Int) := by omega
    have e1 : IntKind.i64.wrap ((i : Int) - 1) = (i : Int) - 1 := wrap_i64 (by omega) (by omega)
    have hd : (zs l).drop i = nthD 0 (zs l) i :: nthD 0 (zs l) (i + 1) :: (zs l).drop (i + 2) := by
      rw [drop_cons (by omega), drop_cons (by omega)]
    have hd1 : (zs l).drop (i + 1) = nthD 0 (zs l) (i + 1) :: (zs l).drop (i + 2) := drop_cons (by omega)
    have hf : fold ((zs l).drop i) = ((nthD 0 (zs l) i : Int) : Rat) + (fold ((zs l).drop (i + 1)))⁻¹ := by rw [hd, hd1]; rfl
    have hp1 : ∀ x ∈ (zs l).drop (i + 1), 0 < x := fun x hx => hpos x (by
      rw [show (zs l).drop (i + 1) = ((zs l).drop 1).drop i by rw [List.drop_drop, Nat.add_comm]] at hx
      exact List.mem_of_mem_drop hx)
    have hge := fold_ge_one ((zs l).drop (i + 1)) (by rw [hd1]; simp) hp1
    have hsz := (fold_size ((zs l).drop (i + 1)) (fun x hx => hp1 x (List.mem_of_mem_drop hx))).1
    have hcd := cost_drop (zs l) (i + 1)
    have hne : fold ((zs l).drop (i + 1)) ≠ 0 := by
      intro h
      rw [h] at hge
      exact absurd hge (by decide)
    rw [hf] at ih1
    generalize fold ((zs l).drop (i + 1)) = q at *
    have hq : Rt 20000000000 (rat q) q := Rt.of (by omega)
    have hqi : Rt 20000000000 (rat q⁻¹) q⁻¹ := Rt.of (by have := LQ_inv q; omega)
    have hx := hl.get i
    have hxr : Rt 20000000000 (rat ((nthD 0 (zs l) i : Int) : Rat)) ((nthD 0 (zs l) i : Int) : Rat) := Rt.of (by
      unfold LQ
      rw [Rat.num_intCast, Rat.den_intCast, L_one]
      have := hx.LZ; omega)
    refine Ev.turn (fun k => ratio_Fold.p4_succ k _ _ _ _) ?_
    unfold ratio_Fold.e4
    simp only [e0, e1, Int.toNat_natCast]
    refine Ev.tru (by simp) (Ev.bind (hq.inv (by omega) (by omega) hne) (Ev.tru (by simp; omega) (Ev.bind (hx.rof (by omega)) (Ev.bind (hxr.add hqi (by omega) (by omega)) ?_))))
    exact ih1

theorem sign_lt_one (z : Int) : z.sign < 1 ↔ z ≤ 0 := by
  rcases Int.lt_trichotomy z 0 with h | h | h
  · rw [Int.sign_eq_neg_one_of_neg h]; omega
  · rw [h]; decide
  · rw [Int.sign_eq_one_of_pos h]; omega

theorem pos_of_get {l : List Int} (h : ∀ i, 1 ≤ i → i < l.length → 0 < nthD 0 l i) : ∀ x ∈ l.drop 1, 0 < x := by
  intro x hx
  obtain ⟨i, hi, rfl⟩ := List.mem_iff_getElem.1 hx
  simp only [List.length_drop] at hi
  have := h (1 + i) (by omega) (by omega)
  rw [nthD_eq, List.getD_eq_getElem?_getD] at this
  rw [List.getElem_drop]
  simpa [show 1 + i < l.length by omega] using this
theorem get_of_pos {l : List Int} (h : ∀ x ∈ l.drop 1, 0 < x) {i : Nat} (h1 : 1 ≤ i) (h2 : i < l.length) : 0 < nthD 0 l i := by
  apply h
  rw [nthD_eq, List.getD_eq_getElem?_getD]
  simp only [h2, List.getElem?_eq_getElem, Option.getD_some]
  apply List.mem_iff_getElem.2
  refine ⟨i - 1, by simp; omega, ?_⟩
  rw [List.getElem_drop]
  congr 1
  omega

def foldR (l : List (Bool × List Int)) : RR × Int := if (∀ x ∈ (zs l).drop 1, 0 < x) then (rat (fold (zs l)), 0) else (noRat, 1)

theorem nthD_drop' {α : Type} (d : α) (l : List α) (m j : Nat) : nthD d (l.drop m) j = nthD d l (m + j) := by
  rw [nthD_eq, nthD_eq, List.getD_eq_getElem?_getD, List.getD_eq_getElem?_getD, List.getElem?_drop]

theorem fold_end (l : List (Bool × List Int)) (h : 0 < l.length) : fold ((zs l).drop (l.length - 1)) = ((nthD 0 (zs l) (l.length - 1) : Int) : Rat) := by
  have hzl : (zs l).length = l.length := by simp [zs]
  rw [drop_cons (by omega), List.drop_of_length_le (by omega)]
  rfl

theorem fold_p0 (hl : Ls M l) (hM : M ≤ 4194304) (hlen : l.length ≤ 1000000000) (hc : cost (zs l) ≤ 4000000000) (h0 : 0 < l.length) (w : RR) : ∀ (m i : Nat), m + i = l.length - 1 → (∀ j, 1 ≤ j → j < 1 + i → 0 < nthD 0 (zs l) j) →
    Ev (fun k => ratio_Fold.p0 k w l (l.drop 1) ((l.length - 1 : Nat) : Int) (i : Int)) (foldR l) := by
  have hzl : (zs l).length = l.length := by simp [zs]
  intro m
  induction m with
  | zero =>
    intro i hi hp
    have hpos := pos_of_get (l := zs l) (fun j h1 h2 => hp j h1 (by omega))
    refine Ev.turn (fun k => ratio_Fold.p0_succ k _ _ _ _ _) ?_
    unfold ratio_Fold.e0
    have e1 : IntKind.i64.wrap ((l.length : Int) - 1) = ((l.length - 1 : Nat) : Int) := by rw [wrap_i64 (by omega) (by omega)]; omega
    have e2 : IntKind.i64.wrap ((l.length : Int) - 2) = ((l.length - 1 : Nat) : Int) - 1 := by rw [wrap_i64 (by omega) (by omega)]; omega
    simp only [e1, e2, Int.toNat_natCast]
    refine Ev.fls (dec_f (by omega)) (Ev.tru (by simp; omega) (Ev.bind ((hl.get (l.length - 1)).rof (by omega)) ?_))
    have := fold_p4 hl hM hlen hc hpos w (l.length - 1) (by omega)
    rw [fold_end l h0] at this
    unfold foldR
    rw [if_pos hpos]
    exact this
  | succ m ih =>
    intro i hi hp
    refine Ev.turn (fun k => ratio_Fold.p0_succ k _ _ _ _ _) ?_
    unfold ratio_Fold.e0
    have e1 : IntKind.i64.wrap ((i : Int) + 1) = ((i + 1 : Nat) : Int) := by rw [wrap_i64 (by omega) (by omega)]; omega
    have hx := hl.get (1 + i)
    have e3 : nthD (false, ([] : List Int)) (l.drop 1) i = nthD z0 l (1 + i) := nthD_drop' _ _ _ _
    simp only [e1, Int.toNat_natCast, e3]
    refine Ev.tru (dec_t (by omega)) (Ev.tru (by simp; omega) (Ev.bind (hx.sign (by omega)) ?_))
    by_cases h : nthD 0 (zs l) (1 + i) ≤ 0
    · refine Ev.tru (dec_t ((sign_lt_one _).2 h)) ?_
      unfold foldR
      rw [if_neg (fun h2 => by have := get_of_pos h2 (i := 1 + i) (by omega) (by omega); omega)]
      exact Ev.pure
    · refine Ev.fls (dec_f (by rw [sign_lt_one]; exact h)) (ih (i + 1) (by omega) fun j h1 h2 => ?_)
      by_cases hj : j = 1 + i
      · subst hj; omega
      · exact hp j h1 (by omega)

def foldA (l : List (Bool × List Int)) : RR × Int := if l = [] then (noRat, 1) else foldR l

theorem fold_ev (hl : Ls M l) (hM : M ≤ 4194304) (hlen : l.length ≤ 1000000000) (hc : cost (zs l) ≤ 4000000000) : Ev (fun k => ratio_Fold.f k l) (foldA l) := by
  unfold ratio_Fold.f ratio_Fold.e foldA
  by_cases h : l = []
  · subst h
    exact Ev.tru (by simp) Ev.pure
  · have h0 : 0 < l.length := List.length_pos_iff.2 h
    rw [if_neg h]
    have e1 : List.drop (Int.toNat 1) (List.take (Int.toNat (l.length : Int)) l) = l.drop 1 := by rw [Int.toNat_natCast, List.take_length]; rfl
    have e2 : ((l.drop 1).length : Int) = ((l.length - 1 : Nat) : Int) := by simp
    simp only [e1, e2]
    refine Ev.fls (dec_f (by omega)) (Ev.tru (by simp; omega) ?_)
    exact fold_p0 hl hM hlen hc h0 _ (l.length - 1) 0 (by omega) (fun j h1 h2 => by omega)
end

end Go.FK


/- The plain law of the second Ratio seat: the small fixed question; Norms, Field. -/
namespace Go.FK

theorem half_at (n : Nat) : law03_half.f (n + 64) () = some true := by kernel_rfl
theorem half_ev : Ev (fun k => law03_half.f k ()) true := ⟨64, fun k hk => by
  obtain ⟨n, rfl⟩ : ∃ n, k = n + 64 := ⟨k - 64, by omega⟩
  exact half_at n⟩

theorem Ev.eq {α : Type} {r s : α} (h : r = s) : Ev (fun _ => Option.some r) s := h ▸ Ev.pure

theorem Zt.twin {M : Nat} {a : Bool × List Int} {z : Int} (h : Zt M a z) (hM : M ≤ 70368744177664) : Ev (fun k => law03_whole.f k a) a := by
  have h1 := h.len
  unfold law03_whole.f law03_whole.e
  exact Ev.bind (law03_nat_ev a.2 (by omega)) Ev.pure
/-! ### The reference's whole ratio of a small number -/
theorem one_nt {M : Nat} (h1 : 1 ≤ M) : Nt M [1] 1 := ⟨Lim.mk (by simp [B]) Lim.nil, by simp [V], by simpa using h1⟩

/-! ### Norms -/
end Go.FK


/- The plain law of the second Ratio seat: Field. -/
namespace Go.FK

theorem sign_mul (p q : Rat) : (p * q).num.sign = p.num.sign * q.num.sign := by
  rw [Rat.num_mul, ← Int.sign_mul]
  have hg : 0 < (p.num * q.num).natAbs.gcd (p.den * q.den) := Nat.gcd_pos_of_pos_right _ (Nat.mul_pos p.den_pos q.den_pos)
  have hd : (((p.num * q.num).natAbs.gcd (p.den * q.den) : Nat) : Int) ∣ p.num * q.num := Int.dvd_natAbs.1 (Int.natCast_dvd_natCast.2 (Nat.gcd_dvd_left _ _))
  obtain ⟨c, hc⟩ := hd
  generalize (p.num * q.num).natAbs.gcd (p.den * q.den) = g at hg hc
  rw [hc, Int.mul_ediv_cancel_left _ (by omega), Int.sign_mul, Int.sign_eq_one_of_pos (a := (g : Int)) (by omega), Int.one_mul]
variable {M : Nat} {a b c : RR} {p q s : Rat}

end Go.FK


/- The plain law of the second Ratio seat: texts of numbers. -/
namespace Go.FK

theorem drop_setN_at {v : Int} {o : List Int} {j : Nat} (h : j < o.length) : (setN v o j).drop j = v :: o.drop (j + 1) := by
  have hl : j < (setN v o j).length := by rw [length_setN]; exact h
  rw [List.drop_eq_getElem_cons hl, drop_setN (Nat.lt_succ_self j)]
  congr 1
  have := nthD_setN 0 v o j j
  rw [if_pos ⟨rfl, h⟩, nthD_eq, List.getD_eq_getElem?_getD, List.getElem?_eq_getElem hl] at this
  simpa using this

def chr (n : Nat) : Int := btI str_9f9f5111f7 (n : Int)
theorem tab_len : str_9f9f5111f7.size = 16 := by decide +kernel
/-- The digits, the lowest first. -/
def dg (n : Nat) : List Int := if h : n = 0 then [] else chr (n % 10) :: dg (n / 10)
termination_by n
decreasing_by omega
theorem dg_zero : dg 0 = [] := by rw [dg]; simp
theorem dg_pos {n : Nat} (h : n ≠ 0) : dg n = chr (n % 10) :: dg (n / 10) := by rw [dg]; simp [h]
def fin (l : List Int) : ByteArray := if l = [] then ByteArray.mk #[48] else ofB l.reverse
def txt (n : Nat) : ByteArray := fin (dg n)

theorem text_p4 (a : List Int) (hl : a.length ≤ 70368744177664) : ∀ (m i : Nat) (o : List Int), m + i = a.length → o.length = a.length → o.drop (a.length - i) = (a.take i).reverse → Ev (fun k => nat_Text.p4 k a o (a.length : Int) (i : Int)) (ofB a.reverse, (0 : Int)) := by
  intro m
  induction m with
  | zero =>
    intro i o hi ho hd
    refine Ev.turn (fun k => nat_Text.p4_succ k _ _ _ _) ?_
    unfold nat_Text.e4
    refine Ev.fls (by simp; omega) ?_
    have e : i = a.length := by omega
    subst e
    rw [Nat.sub_self, List.drop_zero, List.take_length] at hd
    rw [hd]
    exact Ev.pure
  | succ m ih =>
    intro i o hi ho hd
    refine Ev.turn (fun k => nat_Text.p4_succ k _ _ _ _) ?_
    unfold nat_Text.e4
    have e1 : IntKind.i64.wrap (IntKind.i64.wrap ((a.length : Int) - 1) - (i : Int)) = ((a.length - 1 - i : Nat) : Int) := by
      rw [wrap_i64 (n := (a.length : Int) - 1) (by omega) (by omega), wrap_i64 (by omega) (by omega)]; omega
    have e2 : IntKind.i64.wrap ((i : Int) + 1) = ((i + 1 : Nat) : Int) := by rw [wrap_i64 (by omega) (by omega)]; omega
    simp only [e1, e2, Int.toNat_natCast]
    refine Ev.tru (by simp; omega) (Ev.tru (by simp; omega) (Ev.tru (by simp; omega) ?_))
    refine ih (i + 1) _ (by omega) (by rw [length_setN]; exact ho) ?_
    have e3 : a.length - (i + 1) = a.length - 1 - i := by omega
    have e4 : a.length - 1 - i + 1 = a.length - i := by omega
    rw [e3, drop_setN_at (by omega), e4, hd, take_succ_get (by omega), List.reverse_append]
    rfl

theorem text_p0 {M : Nat} (hM : M ≤ 17592186044416) : ∀ (t n : Nat) (acc : List Int), n < 2 ^ t → acc.length + t ≤ 1099511627776 → L n ≤ M → Ev (fun k => nat_Text.p0 k acc 10 (lim n)) (fin (acc ++ dg n), (0 : Int)) := by
  intro t
  induction t with
  | zero =>
    intro n acc hn hl _
    obtain rfl : n = 0 := by simpa using hn
    refine Ev.turn (fun k => nat_Text.p0_succ k _ _ _) ?_
    unfold nat_Text.e0
    rw [lim_zero, dg_zero, List.append_nil]
    refine Ev.fls (by simp) ?_
    by_cases h : acc = []
    · subst h; exact Ev.tru (by simp) (by unfold fin; rw [if_pos rfl]; exact Ev.pure)
    · have : acc.length ≠ 0 := fun h' => h (List.length_eq_zero_iff.1 h')
      unfold fin
      rw [if_neg h]
      refine Ev.fls (by simp; exact h) (Ev.tru (by simp; omega) ?_)
      exact text_p4 acc (by omega) acc.length 0 _ (by omega) (by simp) (by simp)
  | succ t ih =>
    intro n acc hn hl hL
    by_cases h0 : n = 0
    · subst h0
      exact ih 0 acc (Nat.two_pow_pos t) (by omega) hL
    · refine Ev.turn (fun k => nat_Text.p0_succ k _ _ _) ?_
      unfold nat_Text.e0
      have hp := L_pos h0
      have hlen : (lim n).length = L n := rfl
      have ew : IntKind.u32.wrap 10 = ((10 : Nat) : Int) := by decide
      have hnt : Nt M (lim n) n := Nt.of hL
      obtain ⟨q, s1, s2⟩ := hnt.short hM (b := 10) (by omega) (by simp [B])
      have hd : n / 10 < 2 ^ t := by rw [Nat.pow_succ] at hn; omega
      rw [ew]
      refine Ev.tru (by simp; omega) (Ev.bind s1 (Ev.bind (s2.trim (by omega)) ?_))
      have hr : n % 10 < 10 := Nat.mod_lt _ (by omega)
      refine Ev.tru (by rw [tab_len]; simp; omega) (Ev.tru (by simp only [List.length_cons, List.length_nil, Bool.and_eq_true, Nat.ble_eq]; omega) ?_)
      have := ih (n / 10) (acc ++ [chr (n % 10)]) hd (by simp; omega) (Nat.le_trans (L_mono (Nat.div_le_self _ _)) hL)
      rw [List.append_assoc, List.singleton_append, ← dg_pos h0] at this
      exact this

theorem lt_two_pow_L (n : Nat) : n < 2 ^ (32 * L n) := by
  have := L_lt n
  rwa [show (4294967296 : Nat) = 2 ^ 32 from rfl, ← Nat.pow_mul] at this

theorem Nt.text {M n : Nat} {a : List Int} (h : Nt M a n) (hM : M ≤ 34359738368) : Ev (fun k => nat_Text.f k a 10) (txt n, (0 : Int)) := by
  unfold nat_Text.f nat_Text.e
  have hL := h.L
  refine Ev.fls (by simp) (Ev.fls (by simp) (Ev.bind (h.own (by omega)) ?_))
  exact text_p0 (M := M) (by omega) (32 * FK.L n) n [] (lt_two_pow_L n) (by simp; omega) hL

/-! ### The reference's -/
end Go.FK


/- The plain law of the second Ratio seat: Texts. -/
namespace Go.FK

theorem ofB_foldl_size (l : List Int) : ∀ s : ByteArray, (l.foldl (fun s n => s.push (UInt8.ofNat n.toNat)) s).size = s.size + l.length := by
  induction l with
  | nil => intro s; rfl
  | cons x xs ih => intro s; rw [List.foldl_cons, ih, ByteArray.size_push, List.length_cons]; omega
theorem ofB_size (l : List Int) : (ofB l).size = l.length := by
  unfold ofB
  rw [ofB_foldl_size]
  show 0 + _ = _
  omega
theorem dg_length : ∀ (t n : Nat), n < 2 ^ t → (dg n).length ≤ t := by
  intro t
  induction t with
  | zero => intro n hn; obtain rfl : n = 0 := by simpa using hn
            rw [dg_zero]; simp
  | succ t ih =>
    intro n hn
    by_cases h : n = 0
    · subst h; rw [dg_zero]; simp
    · have := ih (n / 10) (by rw [Nat.pow_succ] at hn; omega)
      rw [dg_pos h, List.length_cons]; omega
theorem txt_size (n : Nat) : (txt n).size ≤ 32 * L n + 1 := by
  unfold txt fin
  split
  · show 1 ≤ _; omega
  · rw [ofB_size, List.length_reverse]
    have := dg_length _ n (lt_two_pow_L n)
    omega
theorem small_size {n : Nat} (h : n ≤ 1000000000000000) : decide ((n : Int) > IntKind.i64.max) = false := by
  have : IntKind.i64.max = 9223372036854775807 := by decide
  rw [this]
  simp; omega

theorem Nt.decimal {M n : Nat} {a : List Int} (h : Nt M a n) (hM : M ≤ 34359738368) : Ev (fun k => ratio_decimal.f k a) (txt n) := by
  unfold ratio_decimal.f ratio_decimal.e
  exact Ev.bind (h.text hM) Ev.pure
def wtxt (z : Int) : ByteArray := if z < 0 then ByteArray.mk #[45] ++ txt z.natAbs else txt z.natAbs
theorem wtxt_size (z : Int) : (wtxt z).size ≤ 32 * LZ z + 2 := by
  have := txt_size z.natAbs
  unfold wtxt LZ
  split
  · rw [ByteArray.size_append]
    have e : (ByteArray.mk #[45]).size = 1 := rfl
    omega
  · omega

theorem Zt.text {M : Nat} {a : Bool × List Int} {z : Int} (h : Zt M a z) (hM : M ≤ 1099511627776 / 32) : Ev (fun k => whole_Text.f k a) (wtxt z) := by
  unfold whole_Text.f whole_Text.e
  have hs := txt_size z.natAbs
  have hL : L z.natAbs ≤ M := h.nt.L
  refine Ev.bind (h.nt.text (by omega)) (Ev.bind (h.sign (by omega)) ?_)
  unfold wtxt
  by_cases h0 : z < 0
  · rw [if_pos h0]
    have e : (ByteArray.mk #[45]).size = 1 := rfl
    exact Ev.tru (dec_t ((sign_neg_iff z).2 h0)) (Ev.fls (small_size (by simp only [e]; omega)) Ev.pure)
  · rw [if_neg h0]
    exact Ev.fls (dec_f (fun h => h0 ((sign_neg_iff z).1 h))) Ev.pure
theorem cmp_one {M : Nat} (d : Nat) (hL : L d ≤ M) (h1 : 1 ≤ M) (hM : M ≤ 1000000000) : Ev (fun k => nat_Cmp.f k (lim d) [1]) (sgn d 1) := by
  have h : Nt M (lim d) d := Nt.of hL
  exact h.cmp (one_nt h1) (by omega)
def qtxt (q : Rat) : ByteArray := if q.den = 1 then wtxt q.num else wtxt q.num ++ (ByteArray.mk #[47] ++ txt q.den)

variable {M : Nat} {r : RR} {q : Rat}

theorem Rt.text (h : Rt M r q) (h1 : 1 ≤ M) (hM : M ≤ 100000000) : Ev (fun k => ratio_Text.f k r) (qtxt q) := by
  unfold ratio_Text.f ratio_Text.e
  have l0 := h.LQ h1
  have l1 := LQ_num q
  have l2 := LQ_den q
  have s1 := txt_size q.den
  have s2 := wtxt_size q.num
  have hz : Zt (2 * M) (int q.num) q.num := Zt.of (by omega)
  have hd : Nt (2 * M) (lim q.den) q.den := Nt.of (by omega)
  have fin : ∀ b : ByteArray, Ev (fun k => ratio_Text.p11 k b) b := fun b => Ev.turn (fun k => ratio_Text.p11_succ k b) Ev.pure
  have e : (ByteArray.mk #[47]).size = 1 := rfl
  refine Ev.bind (h.norm (by omega)) (Ev.bind (hz.text (by omega)) (Ev.bind (cmp_one (M := 2 * M) q.den (by omega) (by omega) (by omega)) ?_))
  unfold qtxt
  by_cases h0 : q.den = 1
  · rw [if_pos h0]
    refine Ev.fls (by rw [dec_t (sgn_eq (by omega))]; rfl) (fin _)
  · rw [if_neg h0]
    refine Ev.tru (by rw [dec_f (fun h => h0 (by have := sgn_zero_iff.1 h; omega))]; rfl) ?_
    refine Ev.bind (hd.decimal (by omega)) (Ev.fls (small_size (by simp only [e]; omega)) (Ev.fls (small_size (by simp only [ByteArray.size_append, e]; omega)) (fin _)))

/-! ### Scripts -/
theorem within_ev (h1 : r.1.2.length < 67108864) (h2 : r.2.length < 67108864) : Ev (fun k => law03_within.f k r) r := by
  unfold law03_within.f law03_within.e
  exact Ev.fls (by simp; omega) (Ev.fls (by simp; omega) Ev.pure)

end Go.FK


/- The plain law of the second Ratio seat: Floors. -/
namespace Go.FK

/-- Quotient and remainder, cut towards zero. -/
def tq (z : Int) (d : Nat) : Int := if z < 0 then -((z.natAbs / d : Nat) : Int) else ((z.natAbs / d : Nat) : Int)
def tr (z : Int) (d : Nat) : Int := if z < 0 then -((z.natAbs % d : Nat) : Int) else ((z.natAbs % d : Nat) : Int)

theorem tr_natAbs (z : Int) (d : Nat) : (tr z d).natAbs = z.natAbs % d := by unfold tr; generalize z.natAbs % d = n; split <;> omega
theorem tq_natAbs (z : Int) (d : Nat) : (tq z d).natAbs = z.natAbs / d := by unfold tq; generalize z.natAbs / d = n; split <;> omega

theorem floor_eq (z : Int) {d : Nat} (hd : d ≠ 0) : (if tr z d < 0 then tq z d - 1 else tq z d) = z / (d : Int) := by
  have h1 := Nat.div_add_mod z.natAbs d
  have h2 := Nat.mod_lt z.natAbs (by omega : 0 < d)
  have h3 : ((d * (z.natAbs / d) : Nat) : Int) = (d : Int) * ((z.natAbs / d : Nat) : Int) := by rw [Int.natCast_mul]
  symm
  unfold tr tq
  by_cases hz : z < 0
  · simp only [if_pos hz]
    by_cases hr : z.natAbs % d = 0
    · rw [if_neg (by omega)]
      have e : z = (d : Int) * (-((z.natAbs / d : Nat) : Int)) := by rw [Int.mul_neg]; omega
      exact Int.ediv_eq_of_eq_mul_right (by omega) e
    · rw [if_pos (by omega)]
      refine ((Int.ediv_emod_unique (a := z) (b := (d : Int)) (r := (d : Int) - ((z.natAbs % d : Nat) : Int)) (by omega)).2 ⟨?_, by omega, by omega⟩).1
      rw [Int.mul_sub, Int.mul_neg, Int.mul_one]
      omega
  · simp only [if_neg hz]
    rw [if_neg (by omega)]
    exact ((Int.ediv_emod_unique (a := z) (b := (d : Int)) (r := ((z.natAbs % d : Nat) : Int)) (by omega)).2 ⟨by omega, by omega, by omega⟩).1

variable {M : Nat}

theorem LZ_tq (z : Int) (d : Nat) : LZ (tq z d) ≤ LZ z := by unfold LZ; rw [tq_natAbs]; exact L_div _ _
theorem LZ_tr (z : Int) (d : Nat) : LZ (tr z d) ≤ LZ z := by unfold LZ; rw [tr_natAbs]; exact L_mono (Nat.mod_le _ _)

theorem pos_sign {d : Nat} (hd : d ≠ 0) : (d : Int).sign = 1 := Int.sign_eq_one_of_pos (by omega)

theorem quo_ev {a b : Bool × List Int} {z : Int} {d : Nat} (ha : Zt M a z) (hb : Zt M b d) (hd : d ≠ 0) (hM : M ≤ 1000000000000) : Ev (fun k => whole_Quo.f k a b) (int (tq z d), int (tr z d), (0 : Int)) := by
  unfold whole_Quo.f whole_Quo.e
  have hb' : Nt M b.2 d := hb.nt
  have la := ha.LZ
  have n1 : Nt M (lim (z.natAbs / d)) (z.natAbs / d) := Nt.of (Nat.le_trans (L_div _ _) la)
  have n2 : Nt M (lim (z.natAbs % d)) (z.natAbs % d) := Nt.of (Nat.le_trans (L_mono (Nat.mod_le _ _)) la)
  have sa := ha.sign (by omega)
  have sb := hb.sign (by omega)
  have hs := sign_neg_iff z
  have hc := sign_cases z
  refine Ev.bind (ha.nt.div hb' (by omega) hd) (Ev.fls (by simp) (Ev.bind sa (Ev.bind sb ?_)))
  rw [pos_sign hd]
  refine Ev.bind (n1.signed2 (by omega) (z := tq z d) hc (by omega) (tq_natAbs z d).symm ?_) (Ev.bind sa (Ev.bind (n2.signed1 (by omega) (z := tr z d) hc (tr_natAbs z d).symm ?_) Ev.pure))
  · unfold tq; generalize z.natAbs / d = n; split <;> omega
  · unfold tr; generalize z.natAbs % d = n; split <;> omega

theorem one_zt (hM : 1 ≤ M) : Zt M (int 1) 1 := Zt.of (by have : LZ 1 ≤ 1 := L_le (by decide); omega)

theorem floor_ev {a b : Bool × List Int} {z : Int} {d : Nat} (ha : Zt M a z) (hb : Zt M b d) (hd : d ≠ 0) (h1 : 1 ≤ M) (hM : M ≤ 1000000000000) : ∃ r, Ev (fun k => whole_Floor.f k a b) (int (z / (d : Int)), r, (0 : Int)) := by
  have l1 := LZ_tq z d
  have l2 := LZ_tr z d
  have l3 := ha.LZ
  have hq : Zt M (int (tq z d)) (tq z d) := Zt.of (by omega)
  have hr : Zt M (int (tr z d)) (tr z d) := Zt.of (by omega)
  have hs := sign_neg_iff (tr z d)
  have hc := sign_cases (tr z d)
  have hf := floor_eq z hd
  have sb := hb.sign (by omega)
  rw [pos_sign hd] at sb
  unfold whole_Floor.f whole_Floor.e
  by_cases h0 : tr z d < 0
  · rw [if_pos h0] at hf
    refine ⟨int (tr z d + d), Ev.bind (quo_ev ha hb hd hM) (Ev.fls (by simp) (Ev.bind (hr.sign (by omega)) (Ev.bind sb ?_)))⟩
    rw [wrap_i64 (by omega) (by omega), dec_t (by omega)]
    have hmv : Ev (fun k => whole_moved.f k (int (tq z d)) (int (tr z d)) b true) (int (tq z d - 1), int (tr z d + d), (0 : Int)) := by
      unfold whole_moved.f whole_moved.e
      refine Ev.fls rfl (Ev.bind (hr.sign (by omega)) (Ev.bind sb (Ev.fls (dec_f (by omega)) ?_)))
      exact Ev.bind (whole_Of_ev (by omega)) (Ev.bind (hq.sub (one_zt h1) (by omega)) (Ev.bind (hr.add hb (by omega)) Ev.pure))
    rw [hf] at hmv
    exact Ev.bind hmv Ev.pure
  · rw [if_neg h0] at hf
    refine ⟨int (tr z d), Ev.bind (quo_ev ha hb hd hM) (Ev.fls (by simp) (Ev.bind (hr.sign (by omega)) (Ev.bind sb ?_)))⟩
    rw [wrap_i64 (by omega) (by omega), dec_f (by omega)]
    have hmv : Ev (fun k => whole_moved.f k (int (tq z d)) (int (tr z d)) b false) (int (tq z d), int (tr z d), (0 : Int)) := by
      unfold whole_moved.f whole_moved.e
      exact Ev.tru rfl Ev.pure
    exact Ev.bind hmv (Ev.eq (by rw [← hf]))

variable {r : RR} {q : Rat}
/-- The greatest whole number not above it. -/
def qfloor (q : Rat) : Int := q.num / (q.den : Int)
theorem Rt.floor (h : Rt M r q) (h1 : 1 ≤ M) (hM : M ≤ 100000000000) : Ev (fun k => ratio_Floor.f k r) (int (qfloor q)) := by
  have l := h.LQ h1
  have l1 := LQ_num q
  have l2 := LQ_den q
  obtain ⟨x, hx⟩ := floor_ev (M := 2 * M) (Zt.of (z := q.num) (by omega)) (Zt.pos (Nt.of (n := q.den) (by omega))) q.den_nz (by omega) (by omega)
  unfold ratio_Floor.f ratio_Floor.e
  exact Ev.bind (h.norm (by omega)) (Ev.bind hx Ev.pure)
end Go.FK
