import Derived.Test.YtlojafmcaghpmaaGreatDoorM2
import Derived.Test.YtlojafmcaghpmaaGreatDoorF3

/- The plain law: what comes in, what the laws use. -/
namespace Go.FK

abbrev tyNat : Ty := .list (.int .u32)
abbrev tyInt : Ty := .st (.pair .bool tyNat)
abbrev tyRat : Ty := .st (.pair tyInt tyNat)

theorem nat_wf {a : List Int} (h : tyNat.wf a) : Lim a := by
  intro x hx
  have h2 : IntKind.u32.min ≤ x ∧ x ≤ IntKind.u32.max := h.2 x hx
  have e1 : IntKind.u32.min = 0 := by decide
  have e2 : IntKind.u32.max = 4294967295 := by decide
  rw [e1, e2] at h2
  simp only [B]
  omega
theorem nat_mass (a : List Int) : tyNat.mass a = a.length + 1 := by
  have : ∀ l : List Int, (l.map fun _ => 1).sum = l.length := by
    intro l
    induction l with
    | nil => rfl
    | cons x xs ih => simp only [List.map_cons, List.sum_cons, ih, List.length_cons]; omega
  show (a.map fun _ => 1).sum + 1 = _
  rw [this]
theorem rat_rt {r : RR} (h : tyRat.wf r) {M : Nat} (hM : tyRat.mass r ≤ M) : Rt M r (Qv r) := by
  have h1 : tyNat.wf r.1.2 := h.1.2
  have h2 : tyNat.wf r.2 := h.2
  have hm : tyRat.mass r = (1 + tyNat.mass r.1.2) + tyNat.mass r.2 := rfl
  rw [nat_mass, nat_mass] at hm
  exact ⟨nat_wf h1, nat_wf h2, by omega, by omega, rfl⟩

theorem Rt.twin {M : Nat} {r : RR} {q : Rat} (h : Rt M r q) (hM : M ≤ 70368744177664) : Ev (fun k => law03_twin.f k r) r := by
  have h1 := h.nlen
  have h2 := h.dlen
  have hw : Ev (fun k => law03_whole.f k r.1) r.1 := by
    unfold law03_whole.f law03_whole.e
    exact Ev.bind (law03_nat_ev r.1.2 (by omega)) Ev.pure
  unfold law03_twin.f law03_twin.e
  exact Ev.bind hw (Ev.bind (law03_nat_ev r.2 (by omega)) Ev.pure)

theorem same_rat {M : Nat} {q : Rat} (h : LQ q ≤ M) (hM : M ≤ 35184372088832) : Ev (fun k => law03_same.f k (rat q) (rat q)) true := by
  unfold law03_same.f law03_same.e
  have h1 := LQ_num q
  have h2 := LQ_den q
  have := r3Same_ev (rat q) (rat q) (by show L q.num.natAbs ≤ _; unfold LZ at h1; omega) (by show L q.den ≤ _; omega)
  rw [dec_t rfl] at this
  exact Ev.bind this Ev.pure
theorem none_noRat : Ev (fun k => law03_none.f k noRat) true := by
  unfold law03_none.f law03_none.e noRat
  exact Ev.tru rfl (Ev.tru (by simp) Ev.pure)

theorem half_rt {M : Nat} (hM : 1 ≤ M) : Rt M ((false, [1]), [2]) (mkRat 1 2) := by
  refine ⟨Lim.mk (by simp [B]) Lim.nil, Lim.mk (by simp [B]) Lim.nil, by simpa using hM, by simpa using hM, ?_⟩
  unfold Qv Zv
  simp [V]

theorem LQ_abs (q : Rat) : LQ q.abs = LQ q := by
  rcases Rat.le_total (a := 0) (b := q) with h | h
  · rw [Rat.abs_of_nonneg h]
  · rw [Rat.abs_of_nonpos h, LQ_neg]

end Go.FK


/- The plain law: RatioQuotients and RatioSums. -/
namespace Go.FK

end Go.FK


/- The plain law: RatioFolds. -/
namespace Go.FK

/-- The numbers that Go's data say. -/
def zs (l : List (Bool × List Int)) : List Int := l.map Zv

def z0 : Bool × List Int := (false, [])

theorem nthD_map_zv : ∀ (l : List (Bool × List Int)) (i : Nat), Zv (nthD z0 l i) = nthD 0 (zs l) i
  | [], _ => by simp [nthD, zs, z0, Zv, V]
  | x :: xs, 0 => rfl
  | x :: xs, i + 1 => nthD_map_zv xs i

/-- A list of numbers in Go's hands: all of at most M limbs. -/
def Ls (M : Nat) (l : List (Bool × List Int)) : Prop := ∀ x ∈ l, Lim x.2 ∧ x.2.length ≤ M

theorem Ls.get {M : Nat} {l : List (Bool × List Int)} (h : Ls M l) (i : Nat) : Zt M (nthD z0 l i) (nthD 0 (zs l) i) := by
  rw [← nthD_map_zv]
  rw [nthD_eq, List.getD_eq_getElem?_getD]
  by_cases hi : i < l.length
  · simp only [hi, List.getElem?_eq_getElem, Option.getD_some]
    have := h _ (List.getElem_mem hi)
    exact ⟨this.1, rfl, this.2⟩
  · simp only [show l[i]? = none from List.getElem?_eq_none (by omega), Option.getD_none]
    exact ⟨Lim.nil, rfl, Nat.zero_le _⟩

/-- A continued fraction's number, from a place on. -/
def fold : List Int → Rat
  | [] => 0
  | [x] => x
  | x :: y :: xs => x + (fold (y :: xs))⁻¹

/-- The size of what is folded. -/
def cost : List Int → Nat
  | [] => 0
  | x :: xs => LZ x + 2 + cost xs

theorem fold_ge_one : ∀ (l : List Int), l ≠ [] → (∀ x ∈ l, 0 < x) → 1 ≤ fold l
  | [], h, _ => absurd rfl h
  | [x], _, h => by
    have := h x (by simp)
    show (1 : Rat) ≤ (x : Rat)
    have h2 : ((1 : Int) : Rat) ≤ (x : Rat) := Rat.intCast_le_intCast.2 (by omega)
    exact h2
  | x :: y :: xs, _, h => by
    have ih := fold_ge_one (y :: xs) (by simp) (fun z hz => h z (by simp [hz]))
    have hx := h x (by simp)
    have h2 : ((1 : Int) : Rat) ≤ (x : Rat) := Rat.intCast_le_intCast.2 (by omega)
    have h3 : (0 : Rat) < fold (y :: xs) := by
      have : (0 : Rat) < 1 := by decide
      grind
    have h4 : (0 : Rat) ≤ (fold (y :: xs))⁻¹ := Rat.le_of_lt (Rat.inv_pos.2 h3)
    show (1 : Rat) ≤ (x : Rat) + (fold (y :: xs))⁻¹
    have h5 : (1 : Rat) ≤ (x : Rat) := h2
    grind

theorem ge_one_num {q : Rat} (h : 1 ≤ q) : (q.den : Int) ≤ q.num := by
  have := (Rat.le_iff 1 q).1 h
  simpa using this

/-- x + 1/q: num and den. -/
theorem add_inv_parts {q : Rat} (x : Int) (h : 1 ≤ q) : (x : Rat) + q⁻¹ = mkRat (x * q.num + q.den) q.num.natAbs := by
  have hn := ge_one_num h
  have hd := q.den_nz
  rw [Rat.add_def', Rat.num_intCast, Rat.den_intCast, Rat.num_inv, Rat.den_inv, if_neg (by omega), Int.sign_eq_one_of_pos (by omega)]
  congr 1
  · simp only [Int.one_mul]
    have : (q.num.natAbs : Int) = q.num := by omega
    rw [this]; simp
  · simp

theorem LZ_step (x : Int) {q : Rat} (h : 1 ≤ q) : LQ ((x : Rat) + q⁻¹) ≤ 2 * (LZ q.num) + LZ x + 2 ∧ (0 < x → LZ ((x : Rat) + q⁻¹).num ≤ LZ q.num + LZ x + 1) := by
  have hn := ge_one_num h
  have hd := q.den_nz
  rw [add_inv_parts x h]
  have h1 : LZ (x * q.num + q.den) ≤ LZ q.num + LZ x + 1 := by
    have a1 := LZ_mul x q.num
    have a2 : LZ (q.den : Int) ≤ LZ q.num := by
      unfold LZ
      exact L_mono (by omega)
    have a3 := LZ_add (x * q.num) q.den
    omega
  have h2 := LQ_mkRat (x * q.num + q.den) q.num.natAbs
  have h3 : L q.num.natAbs = LZ q.num := rfl
  have h4 : 1 ≤ LZ q.num := L_pos (by omega)
  refine ⟨by omega, fun _ => ?_⟩
  rw [Rat.num_mkRat, if_neg (by omega)]
  exact Nat.le_trans (L_mono (Int.natAbs_ediv_le_natAbs _ _)) h1

theorem fold_size : ∀ (l : List Int), (∀ x ∈ l.drop 1, 0 < x) → LQ (fold l) ≤ 3 * cost l + 1 ∧ ((∀ x ∈ l, 0 < x) → LZ (fold l).num ≤ cost l)
  | [], _ => by
    show LQ 0 ≤ _ ∧ _
    rw [LQ_zero]
    exact ⟨by omega, fun _ => by show LZ 0 ≤ _; rw [LZ_zero]; omega⟩
  | [x], _ => by
    show LQ (x : Rat) ≤ _ ∧ (_ → LZ ((x : Rat)).num ≤ _)
    unfold LQ
    rw [Rat.num_intCast, Rat.den_intCast, L_one]
    simp only [cost]
    exact ⟨by omega, fun _ => by omega⟩
  | x :: y :: xs, h => by
    have hp : ∀ z ∈ y :: xs, 0 < z := fun z hz => h z (by simpa using hz)
    have ih := fold_size (y :: xs) (fun z hz => hp z (List.mem_of_mem_drop hz))
    have h1 := fold_ge_one (y :: xs) (by simp) hp
    have h2 := LZ_step x h1
    have h3 := ih.2 hp
    have e : fold (x :: y :: xs) = (x : Rat) + (fold (y :: xs))⁻¹ := rfl
    rw [e]
    have ec : cost (x :: y :: xs) = LZ x + 2 + cost (y :: xs) := rfl
    rw [ec]
    exact ⟨by omega, fun h4 => by have := h2.2 (h4 x (by simp)); omega⟩

theorem cost_drop : ∀ (l : List Int) (i : Nat), cost (l.drop i) ≤ cost l
  | [], _ => by simp
  | _ :: _, 0 => Nat.le_refl _
  | x :: xs, i + 1 => by
    have := cost_drop xs i
    simp only [List.drop_succ_cons, cost]
    omega

theorem drop_cons {l : List Int} {i : Nat} (h : i < l.length) : l.drop i = nthD 0 l i :: l.drop (i + 1) := by
  rw [List.drop_eq_getElem_cons h, nthD_eq, List.getD_eq_getElem?_getD]
  simp [h]

theorem LZ_get (l : List Int) (i : Nat) : LZ (nthD 0 l i) ≤ cost l := by
  by_cases h : i < l.length
  · have h1 := cost_drop l i
    rw [drop_cons h] at h1
    simp only [cost] at h1
    omega
  · rw [nthD_eq, List.getD_eq_getElem?_getD, show l[i]? = none from List.getElem?_eq_none (by omega)]
    simp [LZ_zero]

section
variable {M : Nat} {l : List (Bool × List Int)}

theorem sign_lt_one (z : Int) : z.sign < 1 ↔ z ≤ 0 := by
  rcases Int.lt_trichotomy z 0 with h | h | h
  · rw [Int.sign_eq_neg_one_of_neg h]; omega
  · rw [h]; decide
  · rw [Int.sign_eq_one_of_pos h]; omega

theorem pos_of_get {l : List Int} (h : ∀ i, 1 ≤ i → i < l.length → 0 < nthD 0 l i) : ∀ x ∈ l.drop 1, 0 < x := by
  intro x hx
  obtain ⟨i, hi, rfl⟩ := List.mem_iff_getElem.1 hx
  simp only [List.length_drop] at hi
  have := h (1 + i) (by omega) (by omega)
  rw [nthD_eq, List.getD_eq_getElem?_getD] at this
  rw [List.getElem_drop]
  simpa [show 1 + i < l.length by omega] using this
theorem get_of_pos {l : List Int} (h : ∀ x ∈ l.drop 1, 0 < x) {i : Nat} (h1 : 1 ≤ i) (h2 : i < l.length) : 0 < nthD 0 l i := by
  apply h
  rw [nthD_eq, List.getD_eq_getElem?_getD]
  simp only [h2, List.getElem?_eq_getElem, Option.getD_some]
  apply List.mem_iff_getElem.2
  refine ⟨i - 1, by simp; omega, ?_⟩
  rw [List.getElem_drop]
  congr 1
  omega

def foldR (l : List (Bool × List Int)) : RR × Int := if (∀ x ∈ (zs l).drop 1, 0 < x) then (rat (fold (zs l)), 0) else (noRat, 1)

theorem nthD_drop' {α : Type} (d : α) (l : List α) (m j : Nat) : nthD d (l.drop m) j = nthD d l (m + j) := by
  rw [nthD_eq, nthD_eq, List.getD_eq_getElem?_getD, List.getD_eq_getElem?_getD, List.getElem?_drop]

theorem fold_end (l : List (Bool × List Int)) (h : 0 < l.length) : fold ((zs l).drop (l.length - 1)) = ((nthD 0 (zs l) (l.length - 1) : Int) : Rat) := by
  have hzl : (zs l).length = l.length := by simp [zs]
  rw [drop_cons (by omega), List.drop_of_length_le (by omega)]
  rfl

def foldA (l : List (Bool × List Int)) : RR × Int := if l = [] then (noRat, 1) else foldR l

theorem foldA_cases (_hl : Ls M l) (_hM : M ≤ 1048576) (hc : cost (zs l) ≤ 4194304) : foldA l = (noRat, 1) ∨ ∃ q, foldA l = (rat q, 0) ∧ LQ q ≤ 20000000 ∧ q = fold (zs l) := by
  unfold foldA
  by_cases h : l = []
  · exact Or.inl (by rw [if_pos h])
  rw [if_neg h]
  unfold foldR
  by_cases h2 : ∀ x ∈ (zs l).drop 1, 0 < x
  · rw [if_pos h2]
    exact Or.inr ⟨_, rfl, by have := (fold_size (zs l) h2).1; omega, rfl⟩
  · rw [if_neg h2]
    exact Or.inl rfl

end

theorem cost_le : ∀ (l : List (Bool × List Int)), (∀ x ∈ l, tyInt.wf x) → cost (zs l) ≤ (l.map tyInt.mass).sum ∧ l.length ≤ (l.map tyInt.mass).sum
  | [], _ => by simp [zs, cost]
  | x :: xs, h => by
    have ih := cost_le xs (fun y hy => h y (by simp [hy]))
    have hx : tyNat.wf x.2 := (h x (by simp)).2
    have hm : tyInt.mass x = 1 + tyNat.mass x.2 := rfl
    rw [nat_mass] at hm
    have hz : Zt x.2.length x (Zv x) := ⟨nat_wf hx, rfl, Nat.le_refl _⟩
    have := hz.LZ
    simp only [zs, List.map_cons, cost, List.sum_cons, List.length_cons] at ih ⊢
    omega

theorem le_sum_of_mem : ∀ {l : List Nat} {x : Nat}, x ∈ l → x ≤ l.sum
  | y :: ys, x, h => by
    rcases List.mem_cons.1 h with h | h
    · subst h; simp
    · have := le_sum_of_mem h
      simp only [List.sum_cons]
      omega

end Go.FK


/- The plain law of the second Ratio seat: the small fixed question; Norms, Field. -/
namespace Go.FK

theorem half_at (n : Nat) : law03_half.f (n + 64) () = some true := by kernel_rfl
theorem half_ev : Ev (fun k => law03_half.f k ()) true := ⟨64, fun k hk => by
  obtain ⟨n, rfl⟩ : ∃ n, k = n + 64 := ⟨k - 64, by omega⟩
  exact half_at n⟩

theorem Ev.eq {α : Type} {r s : α} (h : r = s) : Ev (fun _ => Option.some r) s := h ▸ Ev.pure

theorem int_mass (a : Bool × List Int) : tyInt.mass a = a.2.length + 2 := by
  have e : tyInt.mass a = 1 + tyNat.mass a.2 := rfl
  rw [e, nat_mass]; omega
theorem int_zt {a : Bool × List Int} (h : tyInt.wf a) {M : Nat} (hM : tyInt.mass a ≤ M) : Zt M a (Zv a) := by
  have h1 : tyNat.wf a.2 := h.2
  rw [int_mass] at hM
  exact ⟨nat_wf h1, rfl, by omega⟩
theorem Zt.twin {M : Nat} {a : Bool × List Int} {z : Int} (h : Zt M a z) (hM : M ≤ 70368744177664) : Ev (fun k => law03_whole.f k a) a := by
  have h1 := h.len
  unfold law03_whole.f law03_whole.e
  exact Ev.bind (law03_nat_ev a.2 (by omega)) Ev.pure
theorem same_eq {M : Nat} {p q : Rat} (e : p = q) (h : LQ p ≤ M) (hM : M ≤ 35184372088832) : Ev (fun k => law03_same.f k (rat p) (rat q)) true := e ▸ same_rat h hM
theorem same_none : Ev (fun k => law03_same.f k noRat noRat) true := by
  unfold law03_same.f law03_same.e
  have := r3Same_ev noRat noRat (by simp [noRat]) (by simp [noRat])
  rw [dec_t rfl] at this
  exact Ev.bind this Ev.pure

/-! ### The reference's whole ratio of a small number -/
theorem ref01_Of_ev {n : Int} (h : 0 ≤ n ∧ n < 18446744073709551616) : Ev (fun k => ref01_Of.f k n) (lim n.toNat) := by
  unfold ref01_Of.f ref01_Of.e
  have e1 : IntKind.u32.wrap n = n % 4294967296 := wrap_u32 n
  have e2 : IntKind.u32.wrap (Int.fdiv n (2 ^ 32)) = n / 4294967296 := by
    rw [Int.fdiv_eq_ediv_of_nonneg _ (by omega), wrap_u32]; omega
  rw [e1, e2]
  have o : Nt 2 [n % 4294967296, n / 4294967296] n.toNat := ⟨Lim.mk (by simp only [B]; omega) (Lim.mk (by simp only [B]; omega) Lim.nil), by simp only [V, B]; omega, by simp⟩
  exact Ev.bind (o.rNorm (by omega)) Ev.pure

theorem ref02_Of_ev {n : Int} (h : -9223372036854775808 ≤ n ∧ n ≤ 9223372036854775807) : Ev (fun k => ref02_Of.f k n) (int n) := by
  unfold ref02_Of.f ref02_Of.e
  have hL : L n.natAbs ≤ 2 := L_le (by omega)
  have n1 : Nt 2 (lim n.natAbs) n.natAbs := Nt.of hL
  by_cases h0 : n < 0
  · have e1 : IntKind.u64.wrap (0 - IntKind.u64.wrap n) = -n := by simp only [wrap_u64]; omega
    rw [e1]
    have e2 : (-n).toNat = n.natAbs := by omega
    have := ref01_Of_ev (n := -n) (by omega)
    rw [e2] at this
    exact Ev.tru (dec_t h0) (Ev.bind this (Ev.bind (r2made_ev n1 (by omega) (by rw [if_pos rfl]; omega)) Ev.pure))
  · have e1 : IntKind.u64.wrap n = n := wrap_u64_id (by omega) (by omega)
    rw [e1]
    have e2 : n.toNat = n.natAbs := by omega
    have := ref01_Of_ev (n := n) (by omega)
    rw [e2] at this
    exact Ev.fls (dec_f h0) (Ev.bind this (Ev.bind (r2made_ev n1 (by omega) (by rw [if_neg (by simp)]; omega)) Ev.pure))

theorem one_nt {M : Nat} (h1 : 1 ≤ M) : Nt M [1] 1 := ⟨Lim.mk (by simp [B]) Lim.nil, by simp [V], by simpa using h1⟩

theorem ref03_Whole_ev {n : Int} (h : -9223372036854775808 ≤ n ∧ n ≤ 9223372036854775807) : Ev (fun k => ref03_Whole.f k n) (rat (n : Rat)) := by
  unfold ref03_Whole.f ref03_Whole.e
  have hz : Zt 2 (int n) n := Zt.of (L_le (by omega))
  have := Rt.mk2 hz (one_nt (by omega))
  rw [show mkRat n 1 = (n : Rat) from Rat.mkRat_self (n : Rat)] at this
  exact Ev.bind (ref02_Of_ev h) (Ev.bind (this.rnorm (by omega)) Ev.pure)

/-! ### Norms -/
theorem LQ_int (n : Int) : LQ (n : Rat) = LZ n + 1 := by unfold LQ; rw [Rat.num_intCast, Rat.den_intCast, L_one]

end Go.FK


/- The plain law of the second Ratio seat: Floors. -/
namespace Go.FK

/-- Quotient and remainder, cut towards zero. -/
def tq (z : Int) (d : Nat) : Int := if z < 0 then -((z.natAbs / d : Nat) : Int) else ((z.natAbs / d : Nat) : Int)
def tr (z : Int) (d : Nat) : Int := if z < 0 then -((z.natAbs % d : Nat) : Int) else ((z.natAbs % d : Nat) : Int)

theorem tr_natAbs (z : Int) (d : Nat) : (tr z d).natAbs = z.natAbs % d := by unfold tr; generalize z.natAbs % d = n; split <;> omega
theorem tq_natAbs (z : Int) (d : Nat) : (tq z d).natAbs = z.natAbs / d := by unfold tq; generalize z.natAbs / d = n; split <;> omega

theorem floor_eq (z : Int) {d : Nat} (hd : d ≠ 0) : (if tr z d < 0 then tq z d - 1 else tq z d) = z / (d : Int) := by
  have h1 := Nat.div_add_mod z.natAbs d
  have h2 := Nat.mod_lt z.natAbs (by omega : 0 < d)
  have h3 : ((d * (z.natAbs / d) : Nat) : Int) = (d : Int) * ((z.natAbs / d : Nat) : Int) := by rw [Int.natCast_mul]
  symm
  unfold tr tq
  by_cases hz : z < 0
  · simp only [if_pos hz]
    by_cases hr : z.natAbs % d = 0
    · rw [if_neg (by omega)]
      have e : z = (d : Int) * (-((z.natAbs / d : Nat) : Int)) := by rw [Int.mul_neg]; omega
      exact Int.ediv_eq_of_eq_mul_right (by omega) e
    · rw [if_pos (by omega)]
      refine ((Int.ediv_emod_unique (a := z) (b := (d : Int)) (r := (d : Int) - ((z.natAbs % d : Nat) : Int)) (by omega)).2 ⟨?_, by omega, by omega⟩).1
      rw [Int.mul_sub, Int.mul_neg, Int.mul_one]
      omega
  · simp only [if_neg hz]
    rw [if_neg (by omega)]
    exact ((Int.ediv_emod_unique (a := z) (b := (d : Int)) (r := ((z.natAbs % d : Nat) : Int)) (by omega)).2 ⟨by omega, by omega, by omega⟩).1

variable {M : Nat}

theorem LZ_tq (z : Int) (d : Nat) : LZ (tq z d) ≤ LZ z := by unfold LZ; rw [tq_natAbs]; exact L_div _ _
theorem LZ_tr (z : Int) (d : Nat) : LZ (tr z d) ≤ LZ z := by unfold LZ; rw [tr_natAbs]; exact L_mono (Nat.mod_le _ _)

theorem pos_sign {d : Nat} (hd : d ≠ 0) : (d : Int).sign = 1 := Int.sign_eq_one_of_pos (by omega)

theorem quo_ev {a b : Bool × List Int} {z : Int} {d : Nat} (ha : Zt M a z) (hb : Zt M b d) (hd : d ≠ 0) (hM : M ≤ 1000000000000) : Ev (fun k => whole_Quo.f k a b) (int (tq z d), int (tr z d), (0 : Int)) := by
  unfold whole_Quo.f whole_Quo.e
  have hb' : Nt M b.2 d := hb.nt
  have la := ha.LZ
  have n1 : Nt M (lim (z.natAbs / d)) (z.natAbs / d) := Nt.of (Nat.le_trans (L_div _ _) la)
  have n2 : Nt M (lim (z.natAbs % d)) (z.natAbs % d) := Nt.of (Nat.le_trans (L_mono (Nat.mod_le _ _)) la)
  have sa := ha.sign (by omega)
  have sb := hb.sign (by omega)
  have hs := sign_neg_iff z
  have hc := sign_cases z
  refine Ev.bind (ha.nt.div hb' (by omega) hd) (Ev.fls (by simp) (Ev.bind sa (Ev.bind sb ?_)))
  rw [pos_sign hd]
  refine Ev.bind (n1.signed2 (by omega) (z := tq z d) hc (by omega) (tq_natAbs z d).symm ?_) (Ev.bind sa (Ev.bind (n2.signed1 (by omega) (z := tr z d) hc (tr_natAbs z d).symm ?_) Ev.pure))
  · unfold tq; generalize z.natAbs / d = n; split <;> omega
  · unfold tr; generalize z.natAbs % d = n; split <;> omega

theorem one_zt (hM : 1 ≤ M) : Zt M (int 1) 1 := Zt.of (by have : LZ 1 ≤ 1 := L_le (by decide); omega)

theorem floor_ev {a b : Bool × List Int} {z : Int} {d : Nat} (ha : Zt M a z) (hb : Zt M b d) (hd : d ≠ 0) (h1 : 1 ≤ M) (hM : M ≤ 1000000000000) : ∃ r, Ev (fun k => whole_Floor.f k a b) (int (z / (d : Int)), r, (0 : Int)) := by
  have l1 := LZ_tq z d
  have l2 := LZ_tr z d
  have l3 := ha.LZ
  have hq : Zt M (int (tq z d)) (tq z d) := Zt.of (by omega)
  have hr : Zt M (int (tr z d)) (tr z d) := Zt.of (by omega)
  have hs := sign_neg_iff (tr z d)
  have hc := sign_cases (tr z d)
  have hf := floor_eq z hd
  have sb := hb.sign (by omega)
  rw [pos_sign hd] at sb
  unfold whole_Floor.f whole_Floor.e
  by_cases h0 : tr z d < 0
  · rw [if_pos h0] at hf
    refine ⟨int (tr z d + d), Ev.bind (quo_ev ha hb hd hM) (Ev.fls (by simp) (Ev.bind (hr.sign (by omega)) (Ev.bind sb ?_)))⟩
    rw [wrap_i64 (by omega) (by omega), dec_t (by omega)]
    have hmv : Ev (fun k => whole_moved.f k (int (tq z d)) (int (tr z d)) b true) (int (tq z d - 1), int (tr z d + d), (0 : Int)) := by
      unfold whole_moved.f whole_moved.e
      refine Ev.fls rfl (Ev.bind (hr.sign (by omega)) (Ev.bind sb (Ev.fls (dec_f (by omega)) ?_)))
      exact Ev.bind (whole_Of_ev (by omega)) (Ev.bind (hq.sub (one_zt h1) (by omega)) (Ev.bind (hr.add hb (by omega)) Ev.pure))
    rw [hf] at hmv
    exact Ev.bind hmv Ev.pure
  · rw [if_neg h0] at hf
    refine ⟨int (tr z d), Ev.bind (quo_ev ha hb hd hM) (Ev.fls (by simp) (Ev.bind (hr.sign (by omega)) (Ev.bind sb ?_)))⟩
    rw [wrap_i64 (by omega) (by omega), dec_f (by omega)]
    have hmv : Ev (fun k => whole_moved.f k (int (tq z d)) (int (tr z d)) b false) (int (tq z d), int (tr z d), (0 : Int)) := by
      unfold whole_moved.f whole_moved.e
      exact Ev.tru rfl Ev.pure
    exact Ev.bind hmv (Ev.eq (by rw [← hf]))

theorem rquo_ev {z : Int} {d : Nat} (hz : LZ z ≤ M) (hdL : L d ≤ M) (hd : d ≠ 0) (hM : M ≤ 1000000000000) : Ev (fun k => ref02_Quo.f k (int z) (false, lim d)) (int (tq z d), int (tr z d), (0 : Int)) := by
  unfold ref02_Quo.f ref02_Quo.e
  have hb : Nt M (lim d) d := Nt.of hdL
  have ha : Nt M (lim z.natAbs) z.natAbs := Nt.of hz
  have n1 : Nt M (lim (z.natAbs / d)) (z.natAbs / d) := Nt.of (Nat.le_trans (L_div _ _) hz)
  have n2 : Nt M (lim (z.natAbs % d)) (z.natAbs % d) := Nt.of (Nat.le_trans (L_mono (Nat.mod_le _ _)) hz)
  have sb := (Zt.pos hb).rsign (by omega)
  rw [pos_sign hd] at sb
  have e : (!(decide (z < 0) == false)) = decide (z < 0) := by cases decide (z < 0) <;> rfl
  refine Ev.bind sb (Ev.fls (by simp) (Ev.bind (ha.rdiv hb (by omega) hd) ?_))
  show Ev (fun k => Option.bind (ref02_made.f k (!(decide (z < 0) == false)) (lim (z.natAbs / d))) _) _
  rw [e]
  refine Ev.bind (r2made_ev n1 (by omega) (z := tq z d) ?_) (Ev.bind (r2made_ev n2 (by omega) (z := tr z d) ?_) Ev.pure)
  · unfold tq
    by_cases h : z < 0
    · rw [if_pos h, dec_t h, if_pos rfl]
    · rw [if_neg h, dec_f h, if_neg (by simp)]
  · show tr z d = if decide (z < 0) = true then _ else _
    unfold tr
    by_cases h : z < 0
    · rw [if_pos h, dec_t h, if_pos rfl]
    · rw [if_neg h, dec_f h, if_neg (by simp)]

theorem rfloor_ev {z : Int} {d : Nat} (hz : LZ z ≤ M) (hdL : L d ≤ M) (hd : d ≠ 0) (h1 : 1 ≤ M) (hM : M ≤ 1000000000000) : ∃ r, Ev (fun k => ref02_Floor.f k (int z) (false, lim d)) (int (z / (d : Int)), r, (0 : Int)) := by
  have l1 := LZ_tq z d
  have l2 := LZ_tr z d
  have hq : Zt M (int (tq z d)) (tq z d) := Zt.of (by omega)
  have hr : Zt M (int (tr z d)) (tr z d) := Zt.of (by omega)
  have hb : Zt M (false, lim d) d := Zt.pos (Nt.of hdL)
  have hs := sign_neg_iff (tr z d)
  have hc := sign_cases (tr z d)
  have hf := floor_eq z hd
  have sb := hb.rsign (by omega)
  rw [pos_sign hd] at sb
  have sr := hr.rsign (by omega)
  have p9 : ∀ w x (y r : Bool × List Int) (e : Int), Ev (fun k => ref02_Floor.p9 k w x y r e) (y, r, e) := fun w x y r e => Ev.turn (fun k => ref02_Floor.p9_succ k _ _ _ _ _) Ev.pure
  unfold ref02_Floor.f ref02_Floor.e
  by_cases h0 : tr z d < 0
  · rw [if_pos h0] at hf
    rw [← hf]
    refine ⟨int (tr z d + d), Ev.bind (rquo_ev hz hdL hd hM) (Ev.tru (by simp) (Ev.bind sr (Ev.tru (by rw [dec_f (by omega)]; rfl) ?_)))⟩
    refine Ev.bind sr (Ev.bind sb (Ev.tru (by rw [dec_f (by omega)]; rfl) ?_))
    exact Ev.bind (ref02_Of_ev (by omega)) (Ev.bind (hq.rsub (one_zt h1) (by omega)) (Ev.bind (hr.radd hb (by omega)) Ev.pure))
  · rw [if_neg h0] at hf
    rw [← hf]
    refine ⟨int (tr z d), Ev.bind (rquo_ev hz hdL hd hM) (Ev.tru (by simp) (Ev.bind sr ?_))⟩
    by_cases h3 : (tr z d).sign = 0
    · exact Ev.fls (by rw [dec_t h3]; rfl) (p9 _ _ _ _ _)
    · refine Ev.tru (by rw [dec_f h3]; rfl) (Ev.bind sr (Ev.bind sb (Ev.fls (by rw [dec_t (by omega)]; rfl) (p9 _ _ _ _ _))))

theorem sameInt_ev {z : Int} (h : LZ z ≤ 35184372088832) : Ev (fun k => law03_sameInt.f k (int z) (int z)) true := by
  unfold law03_sameInt.f law03_sameInt.e
  have := rSame_ev (lim z.natAbs) (lim z.natAbs) h
  rw [dec_t rfl] at this
  exact Ev.tru (by simp) (Ev.bind this Ev.pure)

variable {r : RR} {q : Rat}
/-- The greatest whole number not above it. -/
def qfloor (q : Rat) : Int := q.num / (q.den : Int)
theorem LZ_qfloor (q : Rat) : LZ (qfloor q) ≤ LQ q + 1 := by
  have := LZ_div q.num q.den
  have := LQ_num q
  unfold qfloor
  omega

theorem Rt.floor (h : Rt M r q) (h1 : 1 ≤ M) (hM : M ≤ 100000000000) : Ev (fun k => ratio_Floor.f k r) (int (qfloor q)) := by
  have l := h.LQ h1
  have l1 := LQ_num q
  have l2 := LQ_den q
  obtain ⟨x, hx⟩ := floor_ev (M := 2 * M) (Zt.of (z := q.num) (by omega)) (Zt.pos (Nt.of (n := q.den) (by omega))) q.den_nz (by omega) (by omega)
  unfold ratio_Floor.f ratio_Floor.e
  exact Ev.bind (h.norm (by omega)) (Ev.bind hx Ev.pure)
theorem Rt.rfloor (h : Rt M r q) (h1 : 1 ≤ M) (hM : M ≤ 100000000000) : Ev (fun k => ref03_Floor.f k r) (int (qfloor q)) := by
  have l := h.LQ h1
  have l1 := LQ_num q
  have l2 := LQ_den q
  obtain ⟨x, hx⟩ := rfloor_ev (M := 2 * M) (z := q.num) (d := q.den) (by omega) (by omega) q.den_nz (by omega) (by omega)
  unfold ref03_Floor.f ref03_Floor.e
  exact Ev.bind (h.rnorm (by omega)) (Ev.bind (Ev.pure : Ev (fun k => ref03_positive.f k (lim q.den)) (false, lim q.den)) (Ev.bind hx Ev.pure))

theorem Rt.ceil (h : Rt M r q) (h1 : 1 ≤ M) (hM : M ≤ 10000000000) : Ev (fun k => ratio_Ceil.f k r) (int (-qfloor (-q))) := by
  have l := h.LQ h1
  have hn : Rt (2 * M) (rat (-q)) (-q) := Rt.of (by rw [LQ_neg]; exact l)
  have lf := LZ_qfloor (-q)
  rw [LQ_neg] at lf
  have hz : Zt (4 * M) (int (qfloor (-q))) (qfloor (-q)) := Zt.of (by omega)
  unfold ratio_Ceil.f ratio_Ceil.e
  exact Ev.bind (h.neg h1 (by omega)) (Ev.bind (hn.floor (by omega) (by omega)) (Ev.bind (hz.neg (by omega)) Ev.pure))
theorem Rt.rceil (h : Rt M r q) (h1 : 1 ≤ M) (hM : M ≤ 10000000000) : Ev (fun k => ref03_Ceil.f k r) (int (-qfloor (-q))) := by
  have l := h.LQ h1
  have hn : Rt (2 * M) (rat (-q)) (-q) := Rt.of (by rw [LQ_neg]; exact l)
  have lf := LZ_qfloor (-q)
  rw [LQ_neg] at lf
  have hz : Zt (4 * M) (int (qfloor (-q))) (qfloor (-q)) := Zt.of (by omega)
  unfold ref03_Ceil.f ref03_Ceil.e
  exact Ev.bind (h.rneg h1 (by omega)) (Ev.bind (hn.rfloor (by omega) (by omega)) (Ev.bind (hz.rneg (by omega)) Ev.pure))

end Go.FK
