import Derived.Test.YtlojafmcaghpmaaGreatDoorM2
import Derived.Test.YtlojafmcaghpmaaGreatDoorF3

/- The plain law: what comes in, what the laws use. -/
namespace Go.FK

abbrev tyNat : Ty := .list (.int .u32)
abbrev tyInt : Ty := .st (.pair .bool tyNat)
abbrev tyRat : Ty := .st (.pair tyInt tyNat)

theorem nat_wf {a : List Int} (h : tyNat.wf a) : Lim a := by
  intro x hx
  have h2 : IntKind.u32.min ≤ x ∧ x ≤ IntKind.u32.max := h.2 x hx
  have e1 : IntKind.u32.min = 0 := by decide
  have e2 : IntKind.u32.max = 4294967295 := by decide
  rw [e1, e2] at h2
  simp only [B]
  omega
theorem nat_mass (a : List Int) : tyNat.mass a = a.length + 1 := by
  have : ∀ l : List Int, (l.map fun _ => 1).sum = l.length := by
    intro l
    induction l with
    | nil => rfl
    | cons x xs ih => simp only [List.map_cons, List.sum_cons, ih, List.length_cons]; omega
  show (a.map fun _ => 1).sum + 1 = _
  rw [this]
theorem rat_rt {r : RR} (h : tyRat.wf r) {M : Nat} (hM : tyRat.mass r ≤ M) : Rt M r (Qv r) := by
  have h1 : tyNat.wf r.1.2 := h.1.2
  have h2 : tyNat.wf r.2 := h.2
  have hm : tyRat.mass r = (1 + tyNat.mass r.1.2) + tyNat.mass r.2 := rfl
  rw [nat_mass, nat_mass] at hm
  exact ⟨nat_wf h1, nat_wf h2, by omega, by omega, rfl⟩

theorem Rt.twin {M : Nat} {r : RR} {q : Rat} (h : Rt M r q) (hM : M ≤ 70368744177664) : Ev (fun k => law03_twin.f k r) r := by
  have h1 := h.nlen
  have h2 := h.dlen
  have hw : Ev (fun k => law03_whole.f k r.1) r.1 := by
    unfold law03_whole.f law03_whole.e
    exact Ev.bind (law03_nat_ev r.1.2 (by omega)) Ev.pure
  unfold law03_twin.f law03_twin.e
  exact Ev.bind hw (Ev.bind (law03_nat_ev r.2 (by omega)) Ev.pure)

theorem same_rat {M : Nat} {q : Rat} (h : LQ q ≤ M) (hM : M ≤ 35184372088832) : Ev (fun k => law03_same.f k (rat q) (rat q)) true := by
  unfold law03_same.f law03_same.e
  have h1 := LQ_num q
  have h2 := LQ_den q
  have := r3Same_ev (rat q) (rat q) (by show L q.num.natAbs ≤ _; unfold LZ at h1; omega) (by show L q.den ≤ _; omega)
  rw [dec_t rfl] at this
  exact Ev.bind this Ev.pure
theorem none_noRat : Ev (fun k => law03_none.f k noRat) true := by
  unfold law03_none.f law03_none.e noRat
  exact Ev.tru rfl (Ev.tru (by simp) Ev.pure)

theorem half_rt {M : Nat} (hM : 1 ≤ M) : Rt M ((false, [1]), [2]) (mkRat 1 2) := by
  refine ⟨Lim.mk (by simp [B]) Lim.nil, Lim.mk (by simp [B]) Lim.nil, by simpa using hM, by simpa using hM, ?_⟩
  unfold Qv Zv
  simp [V]

theorem LQ_abs (q : Rat) : LQ q.abs = LQ q := by
  rcases Rat.le_total (a := 0) (b := q) with h | h
  · rw [Rat.abs_of_nonneg h]
  · rw [Rat.abs_of_nonpos h, LQ_neg]

end Go.FK


/- The plain law: RatioQuotients and RatioSums. -/
namespace Go.FK

end Go.FK


/- The plain law: RatioFolds. -/
namespace Go.FK

/-- The numbers that Go's data say. -/
def zs (l : List (Bool × List Int)) : List Int := l.map Zv

def z0 : Bool × List Int := (false, [])

theorem nthD_map_zv : ∀ (l : List (Bool × List Int)) (i : Nat), Zv (nthD z0 l i) = nthD 0 (zs l) i
  | [], _ => by simp [nthD, zs, z0, Zv, V]
  | x :: xs, 0 => rfl
  | x :: xs, i + 1 => nthD_map_zv xs i

/-- A list of numbers in Go's hands: all of at most M limbs. -/
def Ls (M : Nat) (l : List (Bool × List Int)) : Prop := ∀ x ∈ l, Lim x.2 ∧ x.2.length ≤ M

theorem Ls.get {M : Nat} {l : List (Bool × List Int)} (h : Ls M l) (i : Nat) : Zt M (nthD z0 l i) (nthD 0 (zs l) i) := by
  rw [← nthD_map_zv]
  rw [nthD_eq, List.getD_eq_getElem?_getD]
  by_cases hi : i < l.length
  · simp only [hi, List.getElem?_eq_getElem, Option.getD_some]
    have := h _ (List.getElem_mem hi)
    exact ⟨this.1, rfl, this.2⟩
  · simp only [show l[i]? = none from List.getElem?_eq_none (by omega), Option.getD_none]
    exact ⟨Lim.nil, rfl, Nat.zero_le _⟩

/-- A continued fraction's number, from a place on. -/
def fold : List Int → Rat
  | [] => 0
  | [x] => x
  | x :: y :: xs => x + (fold (y :: xs))⁻¹

/-- The size of what is folded. -/
def cost : List Int → Nat
  | [] => 0
  | x :: xs => LZ x + 2 + cost xs

theorem fold_ge_one : ∀ (l : List Int), l ≠ [] → (∀ x ∈ l, 0 < x) → 1 ≤ fold l
  | [], h, _ => absurd rfl h
  | [x], _, h => by
    have := h x (by simp)
    show (1 : Rat) ≤ (x : Rat)
    have h2 : ((1 : Int) : Rat) ≤ (x : Rat) := Rat.intCast_le_intCast.2 (by omega)
    exact h2
  | x :: y :: xs, _, h => by
    have ih := fold_ge_one (y :: xs) (by simp) (fun z hz => h z (by simp [hz]))
    have hx := h x (by simp)
    have h2 : ((1 : Int) : Rat) ≤ (x : Rat) := Rat.intCast_le_intCast.2 (by omega)
    have h3 : (0 : Rat) < fold (y :: xs) := by
      have : (0 : Rat) < 1 := by decide
      grind
    have h4 : (0 : Rat) ≤ (fold (y :: xs))⁻¹ := Rat.le_of_lt (Rat.inv_pos.2 h3)
    show (1 : Rat) ≤ (x : Rat) + (fold (y :: xs))⁻¹
    have h5 : (1 : Rat) ≤ (x : Rat) := h2
    grind

theorem ge_one_num {q : Rat} (h : 1 ≤ q) : (q.den : Int) ≤ q.num := by
  have := (Rat.le_iff 1 q).1 h
  simpa using this

/-- x + 1/q: num and den. -/
theorem add_inv_parts {q : Rat} (x : Int) (h : 1 ≤ q) : (x : Rat) + q⁻¹ = mkRat (x * q.num + q.den) q.num.natAbs := by
  have hn := ge_one_num h
  have hd := q.den_nz
  rw [Rat.add_def', Rat.num_intCast, Rat.den_intCast, Rat.num_inv, Rat.den_inv, if_neg (by omega), Int.sign_eq_one_of_pos (by omega)]
  congr 1
  · simp only [Int.one_mul]
    have : (q.num.natAbs : Int) = q.num := by omega
    rw [this]; simp
  · simp

theorem LZ_step (x : Int) {q : Rat} (h : 1 ≤ q) : LQ ((x : Rat) + q⁻¹) ≤ 2 * (LZ q.num) + LZ x + 2 ∧ (0 < x → LZ ((x : Rat) + q⁻¹).num ≤ LZ q.num + LZ x + 1) := by
  have hn := ge_one_num h
  have hd := q.den_nz
  rw [add_inv_parts x h]
  have h1 : LZ (x * q.num + q.den) ≤ LZ q.num + LZ x + 1 := by
    have a1 := LZ_mul x q.num
    have a2 : LZ (q.den : Int) ≤ LZ q.num := by
      unfold LZ
      exact L_mono (by omega)
    have a3 := LZ_add (x * q.num) q.den
    omega
  have h2 := LQ_mkRat (x * q.num + q.den) q.num.natAbs
  have h3 : L q.num.natAbs = LZ q.num := rfl
  have h4 : 1 ≤ LZ q.num := L_pos (by omega)
  refine ⟨by omega, fun _ => ?_⟩
  rw [Rat.num_mkRat, if_neg (by omega)]
  exact Nat.le_trans (L_mono (Int.natAbs_ediv_le_natAbs _ _)) h1

theorem fold_size : ∀ (l : List Int), (∀ x ∈ l.drop 1, 0 < x) → LQ (fold l) ≤ 3 * cost l + 1 ∧ ((∀ x ∈ l, 0 < x) → LZ (fold l).num ≤ cost l)
  | [], _ => by
    show LQ 0 ≤ _ ∧ _
    rw [LQ_zero]
    exact ⟨by omega, fun _ => by show LZ 0 ≤ _; rw [LZ_zero]; omega⟩
  | [x], _ => by
    show LQ (x : Rat) ≤ _ ∧ (_ → LZ ((x : Rat)).num ≤ _)
    unfold LQ
    rw [Rat.num_intCast, Rat.den_intCast, L_one]
    simp only [cost]
    exact ⟨by omega, fun _ => by omega⟩
  | x :: y :: xs, h => by
    have hp : ∀ z ∈ y :: xs, 0 < z := fun z hz => h z (by simpa using hz)
    have ih := fold_size (y :: xs) (fun z hz => hp z (List.mem_of_mem_drop hz))
    have h1 := fold_ge_one (y :: xs) (by simp) hp
    have h2 := LZ_step x h1
    have h3 := ih.2 hp
    have e : fold (x :: y :: xs) = (x : Rat) + (fold (y :: xs))⁻¹ := rfl
    rw [e]
    have ec : cost (x :: y :: xs) = LZ x + 2 + cost (y :: xs) := rfl
    rw [ec]
    exact ⟨by omega, fun h4 => by have := h2.2 (h4 x (by simp)); omega⟩

theorem cost_drop : ∀ (l : List Int) (i : Nat), cost (l.drop i) ≤ cost l
  | [], _ => by simp
  | _ :: _, 0 => Nat.le_refl _
  | x :: xs, i + 1 => by
    have := cost_drop xs i
    simp only [List.drop_succ_cons, cost]
    omega

theorem drop_cons {l : List Int} {i : Nat} (h : i < l.length) : l.drop i = nthD 0 l i :: l.drop (i + 1) := by
  rw [List.drop_eq_getElem_cons h, nthD_eq, List.getD_eq_getElem?_getD]
  simp [h]

theorem LZ_get (l : List Int) (i : Nat) : LZ (nthD 0 l i) ≤ cost l := by
  by_cases h : i < l.length
  · have h1 := cost_drop l i
    rw [drop_cons h] at h1
    simp only [cost] at h1
    omega
  · rw [nthD_eq, List.getD_eq_getElem?_getD, show l[i]? = none from List.getElem?_eq_none (by omega)]
    simp [LZ_zero]

section
variable {M : Nat} {l : List (Bool × List Int)}

theorem sign_lt_one (z : Int) : z.sign < 1 ↔ z ≤ 0 := by
  rcases Int.lt_trichotomy z 0 with h | h | h
  · rw [Int.sign_eq_neg_one_of_neg h]; omega
  · rw [h]; decide
  · rw [Int.sign_eq_one_of_pos h]; omega

theorem pos_of_get {l : List Int} (h : ∀ i, 1 ≤ i → i < l.length → 0 < nthD 0 l i) : ∀ x ∈ l.drop 1, 0 < x := by
  intro x hx
  obtain ⟨i, hi, rfl⟩ := List.mem_iff_getElem.1 hx
  simp only [List.length_drop] at hi
  have := h (1 + i) (by omega) (by omega)
  rw [nthD_eq, List.getD_eq_getElem?_getD] at this
  rw [List.getElem_drop]
  simpa [show 1 + i < l.length by omega] using this
theorem get_of_pos {l : List Int} (h : ∀ x ∈ l.drop 1, 0 < x) {i : Nat} (h1 : 1 ≤ i) (h2 : i < l.length) : 0 < nthD 0 l i := by
  apply h
  rw [nthD_eq, List.getD_eq_getElem?_getD]
  simp only [h2, List.getElem?_eq_getElem, Option.getD_some]
  apply List.mem_iff_getElem.2
  refine ⟨i - 1, by simp; omega, ?_⟩
  rw [List.getElem_drop]
  congr 1
  omega

def foldR (l : List (Bool × List Int)) : RR × Int := if (∀ x ∈ (zs l).drop 1, 0 < x) then (rat (fold (zs l)), 0) else (noRat, 1)

theorem nthD_drop' {α : Type} (d : α) (l : List α) (m j : Nat) : nthD d (l.drop m) j = nthD d l (m + j) := by
  rw [nthD_eq, nthD_eq, List.getD_eq_getElem?_getD, List.getD_eq_getElem?_getD, List.getElem?_drop]

theorem fold_end (l : List (Bool × List Int)) (h : 0 < l.length) : fold ((zs l).drop (l.length - 1)) = ((nthD 0 (zs l) (l.length - 1) : Int) : Rat) := by
  have hzl : (zs l).length = l.length := by simp [zs]
  rw [drop_cons (by omega), List.drop_of_length_le (by omega)]
  rfl

def foldA (l : List (Bool × List Int)) : RR × Int := if l = [] then (noRat, 1) else foldR l

theorem foldA_cases (_hl : Ls M l) (_hM : M ≤ 1048576) (hc : cost (zs l) ≤ 4194304) : foldA l = (noRat, 1) ∨ ∃ q, foldA l = (rat q, 0) ∧ LQ q ≤ 20000000 ∧ q = fold (zs l) := by
  unfold foldA
  by_cases h : l = []
  · exact Or.inl (by rw [if_pos h])
  rw [if_neg h]
  unfold foldR
  by_cases h2 : ∀ x ∈ (zs l).drop 1, 0 < x
  · rw [if_pos h2]
    exact Or.inr ⟨_, rfl, by have := (fold_size (zs l) h2).1; omega, rfl⟩
  · rw [if_neg h2]
    exact Or.inl rfl

end

theorem cost_le : ∀ (l : List (Bool × List Int)), (∀ x ∈ l, tyInt.wf x) → cost (zs l) ≤ (l.map tyInt.mass).sum ∧ l.length ≤ (l.map tyInt.mass).sum
  | [], _ => by simp [zs, cost]
  | x :: xs, h => by
    have ih := cost_le xs (fun y hy => h y (by simp [hy]))
    have hx : tyNat.wf x.2 := (h x (by simp)).2
    have hm : tyInt.mass x = 1 + tyNat.mass x.2 := rfl
    rw [nat_mass] at hm
    have hz : Zt x.2.length x (Zv x) := ⟨nat_wf hx, rfl, Nat.le_refl _⟩
    have := hz.LZ
    simp only [zs, List.map_cons, cost, List.sum_cons, List.length_cons] at ih ⊢
    omega

theorem le_sum_of_mem : ∀ {l : List Nat} {x : Nat}, x ∈ l → x ≤ l.sum
  | y :: ys, x, h => by
    rcases List.mem_cons.1 h with h | h
    · subst h; simp
    · have := le_sum_of_mem h
      simp only [List.sum_cons]
      omega

end Go.FK


/- The plain law of the second Ratio seat: the small fixed question; Norms, Field. -/
namespace Go.FK

theorem half_at (n : Nat) : law03_half.f (n + 64) () = some true := by kernel_rfl
theorem half_ev : Ev (fun k => law03_half.f k ()) true := ⟨64, fun k hk => by
  obtain ⟨n, rfl⟩ : ∃ n, k = n + 64 := ⟨k - 64, by omega⟩
  exact half_at n⟩

theorem Ev.eq {α : Type} {r s : α} (h : r = s) : Ev (fun _ => Option.some r) s := h ▸ Ev.pure

theorem int_mass (a : Bool × List Int) : tyInt.mass a = a.2.length + 2 := by
  have e : tyInt.mass a = 1 + tyNat.mass a.2 := rfl
  rw [e, nat_mass]; omega
theorem int_zt {a : Bool × List Int} (h : tyInt.wf a) {M : Nat} (hM : tyInt.mass a ≤ M) : Zt M a (Zv a) := by
  have h1 : tyNat.wf a.2 := h.2
  rw [int_mass] at hM
  exact ⟨nat_wf h1, rfl, by omega⟩
theorem Zt.twin {M : Nat} {a : Bool × List Int} {z : Int} (h : Zt M a z) (hM : M ≤ 70368744177664) : Ev (fun k => law03_whole.f k a) a := by
  have h1 := h.len
  unfold law03_whole.f law03_whole.e
  exact Ev.bind (law03_nat_ev a.2 (by omega)) Ev.pure
theorem same_eq {M : Nat} {p q : Rat} (e : p = q) (h : LQ p ≤ M) (hM : M ≤ 35184372088832) : Ev (fun k => law03_same.f k (rat p) (rat q)) true := e ▸ same_rat h hM
theorem same_none : Ev (fun k => law03_same.f k noRat noRat) true := by
  unfold law03_same.f law03_same.e
  have := r3Same_ev noRat noRat (by simp [noRat]) (by simp [noRat])
  rw [dec_t rfl] at this
  exact Ev.bind this Ev.pure

/-! ### The reference's whole ratio of a small number -/
theorem ref01_Of_ev {n : Int} (h : 0 ≤ n ∧ n < 18446744073709551616) : Ev (fun k => ref01_Of.f k n) (lim n.toNat) := by
  unfold ref01_Of.f ref01_Of.e
  have e1 : IntKind.u32.wrap n = n % 4294967296 := wrap_u32 n
  have e2 : IntKind.u32.wrap (Int.fdiv n (2 ^ 32)) = n / 4294967296 := by
    rw [Int.fdiv_eq_ediv_of_nonneg _ (by omega), wrap_u32]; omega
  rw [e1, e2]
  have o : Nt 2 [n % 4294967296, n / 4294967296] n.toNat := ⟨Lim.mk (by simp only [B]; omega) (Lim.mk (by simp only [B]; omega) Lim.nil), by simp only [V, B]; omega, by simp⟩
  exact Ev.bind (o.rNorm (by omega)) Ev.pure

theorem ref02_Of_ev {n : Int} (h : -9223372036854775808 ≤ n ∧ n ≤ 9223372036854775807) : Ev (fun k => ref02_Of.f k n) (int n) := by
  unfold ref02_Of.f ref02_Of.e
  have hL : L n.natAbs ≤ 2 := L_le (by omega)
  have n1 : Nt 2 (lim n.natAbs) n.natAbs := Nt.of hL
  by_cases h0 : n < 0
  · have e1 : IntKind.u64.wrap (0 - IntKind.u64.wrap n) = -n := by simp only [wrap_u64]; omega
    rw [e1]
    have e2 : (-n).toNat = n.natAbs := by omega
    have := ref01_Of_ev (n := -n) (by omega)
    rw [e2] at this
    exact Ev.tru (dec_t h0) (Ev.bind this (Ev.bind (r2made_ev n1 (by omega) (by rw [if_pos rfl]; omega)) Ev.pure))
  · have e1 : IntKind.u64.wrap n = n := wrap_u64_id (by omega) (by omega)
    rw [e1]
    have e2 : n.toNat = n.natAbs := by omega
    have := ref01_Of_ev (n := n) (by omega)
    rw [e2] at this
    exact Ev.fls (dec_f h0) (Ev.bind this (Ev.bind (r2made_ev n1 (by omega) (by rw [if_neg (by simp)]; omega)) Ev.pure))

theorem one_nt {M : Nat} (h1 : 1 ≤ M) : Nt M [1] 1 := ⟨Lim.mk (by simp [B]) Lim.nil, by simp [V], by simpa using h1⟩

theorem ref03_Whole_ev {n : Int} (h : -9223372036854775808 ≤ n ∧ n ≤ 9223372036854775807) : Ev (fun k => ref03_Whole.f k n) (rat (n : Rat)) := by
  unfold ref03_Whole.f ref03_Whole.e
  have hz : Zt 2 (int n) n := Zt.of (L_le (by omega))
  have := Rt.mk2 hz (one_nt (by omega))
  rw [show mkRat n 1 = (n : Rat) from Rat.mkRat_self (n : Rat)] at this
  exact Ev.bind (ref02_Of_ev h) (Ev.bind (this.rnorm (by omega)) Ev.pure)

/-! ### Norms -/
theorem LQ_int (n : Int) : LQ (n : Rat) = LZ n + 1 := by unfold LQ; rw [Rat.num_intCast, Rat.den_intCast, L_one]

end Go.FK


/- The plain law of the second Ratio seat: Floors. -/
namespace Go.FK

/-- Quotient and remainder, cut towards zero. -/
def tq (z : Int) (d : Nat) : Int := if z < 0 then -((z.natAbs / d : Nat) : Int) else ((z.natAbs / d : Nat) : Int)
def tr (z : Int) (d : Nat) : Int := if z < 0 then -((z.natAbs % d : Nat) : Int) else ((z.natAbs % d : Nat) : Int)

theorem tr_natAbs (z : Int) (d : Nat) : (tr z d).natAbs = z.natAbs % d := by unfold tr; generalize z.natAbs % d = n; split <;> omega
theorem tq_natAbs (z : Int) (d : Nat) : (tq z d).natAbs = z.natAbs / d := by unfold tq; generalize z.natAbs / d = n; split <;> omega

theorem floor_eq (z : Int) {d : Nat} (hd : d ≠ 0) : (if tr z d < 0 then tq z d - 1 else tq z d) = z / (d : Int) := by
  have h1 := Nat.div_add_mod z.natAbs d
  have h2 := Nat.mod_lt z.natAbs (by omega : 0 < d)
  have h3 : ((d * (z.natAbs / d) : Nat) : Int) = (d : Int) * ((z.natAbs / d : Nat) : Int) := by rw [Int.natCast_mul]
  symm
  unfold tr tq
  by_cases hz : z < 0
  · simp only [if_pos hz]
    by_cases hr : z.natAbs % d = 0
    · rw [if_neg (by omega)]
      have e : z = (d : Int) * (-((z.natAbs / d : Nat) : Int)) := by rw [Int.mul_neg]; omega
      exact Int.ediv_eq_of_eq_mul_right (by omega) e
    · rw [if_pos (by omega)]
      refine ((Int.ediv_emod_unique (a := z) (b := (d : Int)) (r := (d : Int) - ((z.natAbs % d : Nat) : Int)) (by omega)).2 ⟨?_, by omega, by omega⟩).1
      rw [Int.mul_sub, Int.mul_neg, Int.mul_one]
      omega
  · simp only [if_neg hz]
    rw [if_neg (by omega)]
    exact ((Int.ediv_emod_unique (a := z) (b := (d : Int)) (r := ((z.natAbs % d : Nat) : Int)) (by omega)).2 ⟨by omega, by omega, by omega⟩).1

variable {M : Nat}

theorem LZ_tq (z : Int) (d : Nat) : LZ (tq z d) ≤ LZ z := by unfold LZ; rw [tq_natAbs]; exact L_div _ _
theorem LZ_tr (z : Int) (d : Nat) : LZ (tr z d) ≤ LZ z := by unfold LZ; rw [tr_natAbs]; exact L_mono (Nat.mod_le _ _)

theorem pos_sign {d : Nat} (hd : d ≠ 0) : (d : Int).sign = 1 := Int.sign_eq_one_of_pos (by omega)

theorem quo_ev {a b : Bool × List Int} {z : Int} {d : Nat} (ha : Zt M a z) (hb : Zt M b d) (hd : d ≠ 0) (hM : M ≤ 1000000000000) : Ev (fun k => whole_Quo.f k a b) (int (tq z d), int (tr z d), (0 : Int)) := by
  unfold whole_Quo.f whole_Quo.e
  have hb' : Nt M b.2 d := hb.nt
  have la := ha.LZ
  have n1 : Nt M (lim (z.natAbs / d)) (z.natAbs / d) := Nt.of (Nat.le_trans (L_div _ _) la)
  have n2 : Nt M (lim (z.natAbs % d)) (z.natAbs % d) := Nt.of (Nat.le_trans (L_mono (Nat.mod_le _ _)) la)
  have sa := ha.sign (by omega)
  have sb := hb.sign (by omega)
  have hs := sign_neg_iff z
  have hc := sign_cases z
  refine Ev.bind (ha.nt.div hb' (by omega) hd) (Ev.fls (by simp) (Ev.bind sa (Ev.bind sb ?_)))
  rw [pos_sign hd]
  refine Ev.bind (n1.signed2 (by omega) (z := tq z d) hc (by omega) (tq_natAbs z d).symm ?_) (Ev.bind sa (Ev.bind (n2.signed1 (by omega) (z := tr z d) hc (tr_natAbs z d).symm ?_) Ev.pure))
  · unfold tq; generalize z.natAbs / d = n; split <;> omega
  · unfold tr; generalize z.natAbs % d = n; split <;> omega

theorem one_zt (hM : 1 ≤ M) : Zt M (int 1) 1 := Zt.of (by have : LZ 1 ≤ 1 := L_le (by decide); omega)

theorem floor_ev {a b : Bool × List Int} {z : Int} {d : Nat} (ha : Zt M a z) (hb : Zt M b d) (hd : d ≠ 0) (h1 : 1 ≤ M) (hM : M ≤ 1000000000000) : ∃ r, Ev (fun k => whole_Floor.f k a b) (int (z / (d : Int)), r, (0 : Int)) := by
  have l1 := LZ_tq z d
  have l2 := LZ_tr z d
  have l3 := ha.LZ
  have hq : Zt M (int (tq z d)) (tq z d) := Zt.of (by omega)
  have hr : Zt M (int (tr z d)) (tr z d) := Zt.of (by omega)
  have hs := sign_neg_iff (tr z d)
  have hc := sign_cases (tr z d)
  have hf := floor_eq z hd
  have sb := hb.sign (by omega)
  rw [pos_sign hd] at sb
  unfold whole_Floor.f whole_Floor.e
  by_cases h0 : tr z d < 0
  · rw [if_pos h0] at hf
    refine ⟨int (tr z d + d), Ev.bind (quo_ev ha hb hd hM) (Ev.fls (by simp) (Ev.bind (hr.sign (by omega)) (Ev.bind sb ?_)))⟩
    rw [wrap_i64 (by omega) (by omega), dec_t (by omega)]
    have hmv : Ev (fun k => whole_moved.f k (int (tq z d)) (int (tr z d)) b true) (int (tq z d - 1), int (tr z d + d), (0 : Int)) := by
      unfold whole_moved.f whole_moved.e
      refine Ev.fls rfl (Ev.bind (hr.sign (by omega)) (Ev.bind sb (Ev.fls (dec_f (by omega)) ?_)))
      exact Ev.bind (whole_Of_ev (by omega)) (Ev.bind (hq.sub (one_zt h1) (by omega)) (Ev.bind (hr.add hb (by omega)) Ev.pure))
    rw [hf] at hmv
    exact Ev.bind hmv Ev.pure
  · rw [if_neg h0] at hf
    refine ⟨int (tr z d), Ev.bind (quo_ev ha hb hd hM) (Ev.fls (by simp) (Ev.bind (hr.sign (by omega)) (Ev.bind sb ?_)))⟩
    rw [wrap_i64 (by omega) (by omega), dec_f (by omega)]
    have hmv : Ev (fun k => whole_moved.f k (int (tq z d)) (int (tr z d)) b false) (int (tq z d), int (tr z d), (0 : Int)) := by
      unfold whole_moved.f whole_moved.e
      exact Ev.tru rfl Ev.pure
    exact Ev.bind hmv (Ev.eq (by rw [← hf]))

theorem rquo_ev {z : Int} {d : Nat} (hz : LZ z ≤ M) (hdL : L d ≤ M) (hd : d ≠ 0) (hM : M ≤ 1000000000000) : Ev (fun k => ref02_Quo.f k (int z) (false, lim d)) (int (tq z d), int (tr z d), (0 : Int)) := by
  unfold ref02_Quo.f ref02_Quo.e
  have hb : Nt M (lim d) d := Nt.of hdL
  have ha : Nt M (lim z.natAbs) z.natAbs := Nt.of hz
  have n1 : Nt M (lim (z.natAbs / d)) (z.natAbs / d) := Nt.of (Nat.le_trans (L_div _ _) hz)
  have n2 : Nt M (lim (z.natAbs % d)) (z.natAbs % d) := Nt.of (Nat.le_trans (L_mono (Nat.mod_le _ _)) hz)
  have sb := (Zt.pos hb).rsign (by omega)
  rw [pos_sign hd] at sb
  have e : (!(decide (z < 0) == false)) = decide (z < 0) := by cases decide (z < 0) <;> rfl
  refine Ev.bind sb (Ev.fls (by simp) (Ev.bind (ha.rdiv hb (by omega) hd) ?_))
  show Ev (fun k => Option.bind (ref02_made.f k (!(decide (z < 0) == false)) (lim (z.natAbs / d))) _) _
  rw [e]
  refine Ev.bind (r2made_ev n1 (by omega) (z := tq z d) ?_) (Ev.bind (r2made_ev n2 (by omega) (z := tr z d) ?_) Ev.pure)
  · unfold tq
    by_cases h : z < 0
    · rw [if_pos h, dec_t h, if_pos rfl]
    · rw [if_neg h, dec_f h, if_neg (by simp)]
  · show tr z d = if decide (z < 0) = true then _ else _
    unfold tr
    by_cases h : z < 0
    · rw [if_pos h, dec_t h, if_pos rfl]
    · rw [if_neg h, dec_f h, if_neg (by simp)]

theorem rfloor_ev {z : Int} {d : Nat} (hz : LZ z ≤ M) (hdL : L d ≤ M) (hd : d ≠ 0) (h1 : 1 ≤ M) (hM : M ≤ 1000000000000) : ∃ r, Ev (fun k => ref02_Floor.f k (int z) (false, lim d)) (int (z / (d : Int)), r, (0 : Int)) := by
  have l1 := LZ_tq z d
  have l2 := LZ_tr z d
  have hq : Zt M (int (tq z d)) (tq z d) := Zt.of (by omega)
  have hr : Zt M (int (tr z d)) (tr z d) := Zt.of (by omega)
  have hb : Zt M (false, lim d) d := Zt.pos (Nt.of hdL)
  have hs := sign_neg_iff (tr z d)
  have hc := sign_cases (tr z d)
  have hf := floor_eq z hd
  have sb := hb.rsign (by omega)
  rw [pos_sign hd] at sb
  have sr := hr.rsign (by omega)
  have p9 : ∀ w x (y r : Bool × List Int) (e : Int), Ev (fun k => ref02_Floor.p9 k w x y r e) (y, r, e) := fun w x y r e => Ev.turn (fun k => ref02_Floor.p9_succ k _ _ _ _ _) Ev.pure
  unfold ref02_Floor.f ref02_Floor.e
  by_cases h0 : tr z d < 0
  · rw [if_pos h0] at hf
    rw [← hf]
    refine ⟨int (tr z d + d), Ev.bind (rquo_ev hz hdL hd hM) (Ev.tru (by simp) (Ev.bind sr (Ev.tru (by rw [dec_f (by omega)]; rfl) ?_)))⟩
    refine Ev.bind sr (Ev.bind sb (Ev.tru (by rw [dec_f (by omega)]; rfl) ?_))
    exact Ev.bind (ref02_Of_ev (by omega)) (Ev.bind (hq.rsub (one_zt h1) (by omega)) (Ev.bind (hr.radd hb (by omega)) Ev.pure))
  · rw [if_neg h0] at hf
    rw [← hf]
    refine ⟨int (tr z d), Ev.bind (rquo_ev hz hdL hd hM) (Ev.tru (by simp) (Ev.bind sr ?_))⟩
    by_cases h3 : (tr z d).sign = 0
    · exact Ev.fls (by rw [dec_t h3]; rfl) (p9 _ _ _ _ _)
    · refine Ev.tru (by rw [dec_f h3]; rfl) (Ev.bind sr (Ev.bind sb (Ev.fls (by rw [dec_t (by omega)]; rfl) (p9 _ _ _ _ _))))

theorem sameInt_ev {z : Int} (h : LZ z ≤ 35184372088832) : Ev (fun k => law03_sameInt.f k (int z) (int z)) true := by
  unfold law03_sameInt.f law03_sameInt.e
  have := rSame_ev (lim z.natAbs) (lim z.natAbs) h
  rw [dec_t rfl] at this
  exact Ev.tru (by simp) (Ev.bind this Ev.pure)

variable {r : RR} {q : Rat}
/-- The greatest whole number not above it. -/
def qfloor (q : Rat) : Int := q.num / (q.den : Int)
theorem LZ_qfloor (q : Rat) : LZ (qfloor q) ≤ LQ q + 1 := by
  have := LZ_div q.num q.den
  have := LQ_num q
  unfold qfloor
  omega

theorem Rt.floor (h : Rt M r q) (h1 : 1 ≤ M) (hM : M ≤ 100000000000) : Ev (fun k => ratio_Floor.f k r) (int (qfloor q)) := by
  have l := h.LQ h1
  have l1 := LQ_num q
  have l2 := LQ_den q
  obtain ⟨x, hx⟩ := floor_ev (M := 2 * M) (Zt.of (z := q.num) (by omega)) (Zt.pos (Nt.of (n := q.den) (by omega))) q.den_nz (by omega) (by omega)
  unfold ratio_Floor.f ratio_Floor.e
  exact Ev.bind (h.norm (by omega)) (Ev.bind hx Ev.pure)
theorem Rt.rfloor (h : Rt M r q) (h1 : 1 ≤ M) (hM : M ≤ 100000000000) : Ev (fun k => ref03_Floor.f k r) (int (qfloor q)) := by
  have l := h.LQ h1
  have l1 := LQ_num q
  have l2 := LQ_den q
  obtain ⟨x, hx⟩ := rfloor_ev (M := 2 * M) (z := q.num) (d := q.den) (by omega) (by omega) q.den_nz (by omega) (by omega)
  unfold ref03_Floor.f ref03_Floor.e
  exact Ev.bind (h.rnorm (by omega)) (Ev.bind (Ev.pure : Ev (fun k => ref03_positive.f k (lim q.den)) (false, lim q.den)) (Ev.bind hx Ev.pure))

theorem Rt.ceil (h : Rt M r q) (h1 : 1 ≤ M) (hM : M ≤ 10000000000) : Ev (fun k => ratio_Ceil.f k r) (int (-qfloor (-q))) := by
  have l := h.LQ h1
  have hn : Rt (2 * M) (rat (-q)) (-q) := Rt.of (by rw [LQ_neg]; exact l)
  have lf := LZ_qfloor (-q)
  rw [LQ_neg] at lf
  have hz : Zt (4 * M) (int (qfloor (-q))) (qfloor (-q)) := Zt.of (by omega)
  unfold ratio_Ceil.f ratio_Ceil.e
  exact Ev.bind (h.neg h1 (by omega)) (Ev.bind (hn.floor (by omega) (by omega)) (Ev.bind (hz.neg (by omega)) Ev.pure))
theorem Rt.rceil (h : Rt M r q) (h1 : 1 ≤ M) (hM : M ≤ 10000000000) : Ev (fun k => ref03_Ceil.f k r) (int (-qfloor (-q))) := by
  have l := h.LQ h1
  have hn : Rt (2 * M) (rat (-q)) (-q) := Rt.of (by rw [LQ_neg]; exact l)
  have lf := LZ_qfloor (-q)
  rw [LQ_neg] at lf
  have hz : Zt (4 * M) (int (qfloor (-q))) (qfloor (-q)) := Zt.of (by omega)
  unfold ref03_Ceil.f ref03_Ceil.e
  exact Ev.bind (h.rneg h1 (by omega)) (Ev.bind (hn.rfloor (by omega) (by omega)) (Ev.bind (hz.rneg (by omega)) Ev.pure))

end Go.FK


/- The plain law: the simplest number between two, and how it is found: the mathematics. -/
namespace Go.FK
/-! ### Rational numbers by their parts -/
theorem qfloor_eq (q : Rat) : qfloor q = q.floor := (Rat.floor_def q).symm
theorem qfloor_le (q : Rat) : (qfloor q : Rat) ≤ q := by rw [qfloor_eq]; exact Rat.floor_le q
theorem lt_qfloor (q : Rat) : q < (qfloor q : Rat) + 1 := by
  have h := Rat.lt_floor_add_one q
  rw [Rat.intCast_add] at h
  rw [qfloor_eq]; exact h
theorem le_qfloor {n : Int} {q : Rat} : n ≤ qfloor q ↔ (n : Rat) ≤ q := by rw [qfloor_eq]; exact Rat.le_floor_iff
theorem int_lt_rat {n : Int} {y : Rat} : (n : Rat) < y ↔ n * y.den < y.num := by rw [Rat.lt_iff]; simp
theorem rat_lt_int {n : Int} {y : Rat} : y < (n : Rat) ↔ y.num < n * y.den := by rw [Rat.lt_iff]; simp
theorem sub_int_parts (x : Rat) (n : Int) : (x - (n : Rat)).num = x.num - n * x.den ∧ (x - (n : Rat)).den = x.den := by
  have hc : (x.num - n * x.den).natAbs.Coprime x.den := by
    have h : Int.gcd (x.num - n * x.den) x.den = Int.gcd x.num x.den := Int.gcd_sub_mul_right_left _ _ _
    have h2 : Int.gcd x.num x.den = 1 := x.reduced
    rw [h2] at h
    exact h
  have e : x - (n : Rat) = ⟨x.num - n * x.den, x.den, x.den_nz, hc⟩ := by
    rw [Rat.mk_eq_mkRat, Rat.sub_def']
    simp
  rw [e]
  exact ⟨rfl, rfl⟩
theorem add_int_parts (x : Rat) (n : Int) : ((n : Rat) + x).num = n * x.den + x.num ∧ ((n : Rat) + x).den = x.den := by
  have h := sub_int_parts x (-n)
  have e : x - ((-n : Int) : Rat) = (n : Rat) + x := by
    rw [Rat.intCast_neg]; grind
  rw [e] at h
  refine ⟨?_, h.2⟩
  rw [h.1, Int.neg_mul]; omega
theorem num_pos {x : Rat} (h : 0 < x) : 0 < x.num := by
  have := (Rat.lt_iff 0 x).1 h
  simpa using this
theorem of_num_pos {x : Rat} (h : 0 < x.num) : 0 < x := (Rat.lt_iff 0 x).2 (by simpa using h)
theorem inv_parts {x : Rat} (h : 0 < x) : x⁻¹.num = x.den ∧ (x⁻¹.den : Int) = x.num := by
  have := num_pos h
  rw [Rat.num_inv, Rat.den_inv, if_neg (by omega), Int.sign_eq_one_of_pos this]
  omega
theorem inv_lt {a b : Rat} (ha : 0 < a) (hb : 0 < b) : a⁻¹ < b⁻¹ ↔ b < a := by
  have h1 := inv_parts ha
  have h2 := inv_parts hb
  rw [Rat.lt_iff, Rat.lt_iff, h1.1, h1.2, h2.1, h2.2, Int.mul_comm (a.den : Int), Int.mul_comm (b.den : Int)]
theorem inv_lt' {a b : Rat} (ha : 0 < a) (hb : 0 < b) : a⁻¹ < b ↔ b⁻¹ < a := by
  have := inv_lt (a := a) (b := b⁻¹) ha (Rat.inv_pos.2 hb)
  rwa [Rat.inv_inv] at this
theorem lt_inv' {a b : Rat} (ha : 0 < a) (hb : 0 < b) : a < b⁻¹ ↔ b < a⁻¹ := by
  have := inv_lt (a := a⁻¹) (b := b) (Rat.inv_pos.2 ha) hb
  rwa [Rat.inv_inv] at this

/-! ### The simplest number between two -/
/-- Above lo and below hi (where there is a hi). -/
def In (lo : Rat) (hi : Option Rat) (y : Rat) : Prop := lo < y ∧ ∀ h, hi = some h → y < h

/-- The simplest one (above a lo that is not below 0): least in both parts. -/
structure Simp (lo : Rat) (hi : Option Rat) (x : Rat) : Prop where
  mem : In lo hi x
  least : ∀ y, In lo hi y → x.den ≤ y.den ∧ x.num ≤ y.num

theorem simp_int {lo : Rat} {hi : Option Rat} (h0 : 0 ≤ lo) (h : ∀ h, hi = some h → (qfloor lo : Rat) + 1 < h) : Simp lo hi ((qfloor lo : Rat) + 1) := by
  have e : (qfloor lo : Rat) + 1 = ((qfloor lo + 1 : Int) : Rat) := by simp
  refine ⟨⟨lt_qfloor lo, h⟩, fun y hy => ?_⟩
  have hf : 0 ≤ qfloor lo := le_qfloor.2 (by simpa using h0)
  have h1 : (qfloor lo : Rat) < y := by have := qfloor_le lo; have := hy.1; grind
  have h2 := int_lt_rat.1 h1
  have h3 := y.den_pos
  rw [e, Rat.num_intCast, Rat.den_intCast]
  refine ⟨h3, ?_⟩
  have h4 : qfloor lo * 1 ≤ qfloor lo * y.den := Int.mul_le_mul_of_nonneg_left (by omega) hf
  omega

/-- The numbers above lo, less lo's whole part, turned round. -/
def nextLo (lo hi : Rat) : Rat := (hi - (qfloor lo : Rat))⁻¹
def nextHi (lo : Rat) : Option Rat := if lo - (qfloor lo : Rat) = 0 then none else some (lo - (qfloor lo : Rat))⁻¹

theorem in_next {lo hi y : Rat} (h : lo < y ∧ y < hi) : In (nextLo lo hi) (nextHi lo) (y - (qfloor lo : Rat))⁻¹ := by
  have hf := qfloor_le lo
  have hy : 0 < y - (qfloor lo : Rat) := by grind
  have hh : 0 < hi - (qfloor lo : Rat) := by grind
  refine ⟨(inv_lt hh hy).2 (by grind), fun t ht => ?_⟩
  unfold nextHi at ht
  split at ht
  · cases ht
  rename_i hne
  simp only [Option.some.injEq] at ht
  subst ht
  have hl : 0 < lo - (qfloor lo : Rat) := by grind
  exact (inv_lt hy hl).2 (by grind)

theorem of_next {lo hi z : Rat} (hlt : lo < hi) (h : In (nextLo lo hi) (nextHi lo) z) : 0 < z ∧ lo < (qfloor lo : Rat) + z⁻¹ ∧ (qfloor lo : Rat) + z⁻¹ < hi := by
  have hf := qfloor_le lo
  have hh : 0 < hi - (qfloor lo : Rat) := by grind
  have hz : 0 < z := by
    have h1 : 0 < nextLo lo hi := Rat.inv_pos.2 hh
    have := h.1
    grind
  have hzi : 0 < z⁻¹ := Rat.inv_pos.2 hz
  refine ⟨hz, ?_, ?_⟩
  · by_cases h0 : lo - (qfloor lo : Rat) = 0
    · grind
    · have hl : 0 < lo - (qfloor lo : Rat) := by grind
      have := h.2 (lo - (qfloor lo : Rat))⁻¹ (by unfold nextHi; rw [if_neg h0])
      have := (lt_inv' hz hl).1 this
      grind
  · have := (inv_lt' hh hz).1 h.1
    grind

theorem step_parts {n : Int} {z : Rat} (hz : 0 < z) : ((n : Rat) + z⁻¹).num = n * z.num + z.den ∧ (((n : Rat) + z⁻¹).den : Int) = z.num := by
  have h1 := add_int_parts z⁻¹ n
  have h2 := inv_parts hz
  rw [h1.1, h1.2, h2.1, h2.2]
  exact ⟨rfl, rfl⟩
theorem back_parts {n : Int} {y : Rat} (h : (n : Rat) < y) : (y - (n : Rat))⁻¹.num = y.den ∧ ((y - (n : Rat))⁻¹.den : Int) = y.num - n * y.den := by
  have h1 := sub_int_parts y n
  have h2 := inv_parts (x := y - (n : Rat)) (by grind)
  rw [h2.1, h2.2, h1.1, h1.2]
  exact ⟨rfl, rfl⟩

theorem simp_step {lo hi z : Rat} (h0 : 0 ≤ lo) (hlt : lo < hi) (h : Simp (nextLo lo hi) (nextHi lo) z) : Simp lo (some hi) ((qfloor lo : Rat) + z⁻¹) := by
  obtain ⟨hz, h1, h2⟩ := of_next hlt h.mem
  have hf : 0 ≤ qfloor lo := le_qfloor.2 (by simpa using h0)
  refine ⟨⟨h1, fun t ht => by cases ht; exact h2⟩, fun y hy => ?_⟩
  have hyh := hy.2 hi rfl
  have hfy : (qfloor lo : Rat) < y := by have := qfloor_le lo; have := hy.1; grind
  have hl := h.least _ (in_next ⟨hy.1, hyh⟩)
  have hb := back_parts hfy
  have hs := step_parts (n := qfloor lo) hz
  have hl2 : (z.den : Int) ≤ ((y - (qfloor lo : Rat))⁻¹.den : Int) := Int.ofNat_le.2 hl.1
  have hl3 := hl.2
  rw [hb.1] at hl3
  rw [hb.2] at hl2
  refine ⟨?_, ?_⟩
  · have : (((qfloor lo : Rat) + z⁻¹).den : Int) ≤ (y.den : Int) := by rw [hs.2]; exact hl3
    exact Int.ofNat_le.1 this
  · rw [hs.1]
    have h4 : qfloor lo * z.num ≤ qfloor lo * y.den := Int.mul_le_mul_of_nonneg_left hl3 hf
    omega

/-- The simplest number between any two: the least Den, then the least size. -/
structure Wmp (lo hi x : Rat) : Prop where
  above : lo < x
  below : x < hi
  least : ∀ y, lo < y → y < hi → x.den < y.den ∨ (x.den = y.den ∧ x.num.natAbs ≤ y.num.natAbs)

theorem Simp.wmp {lo hi x : Rat} (h0 : 0 ≤ lo) (h : Simp lo (some hi) x) : Wmp lo hi x := by
  refine ⟨h.mem.1, h.mem.2 hi rfl, fun y h1 h2 => ?_⟩
  have hl := h.least y ⟨h1, fun t ht => by cases ht; exact h2⟩
  have hx : 0 < x.num := num_pos (by have := h.mem.1; grind)
  have hy : 0 < y.num := num_pos (by grind)
  omega

theorem Wmp.zero {lo hi : Rat} (h1 : lo < 0) (h2 : 0 < hi) : Wmp lo hi 0 := by
  refine ⟨h1, h2, fun y _ _ => ?_⟩
  have := y.den_pos
  simp only [Rat.den_ofNat, Rat.num_ofNat]
  by_cases h : y.den = 1
  · right; simp; omega
  · left; omega

theorem Wmp.neg {lo hi x : Rat} (h : Wmp (-hi) (-lo) x) : Wmp lo hi (-x) := by
  refine ⟨by have := h.below; grind, by have := h.above; grind, fun y h1 h2 => ?_⟩
  have := h.least (-y) (by grind) (by grind)
  simpa using this

theorem Wmp.uniq {lo hi x y : Rat} (hx : Wmp lo hi x) (hy : Wmp lo hi y) : x = y := by
  have h1 := hx.least y hy.above hy.below
  have h2 := hy.least x hx.above hx.below
  have hd : x.den = y.den := by omega
  have hn : x.num.natAbs = y.num.natAbs := by omega
  by_cases h : x.num = y.num
  · exact Rat.ext h hd
  · exfalso
    have h3 : x.num = -y.num := by omega
    have key : ∀ a b : Rat, Wmp lo hi a → Wmp lo hi b → 0 < a.num → b.num < 0 → False := by
      intro a b ha hb h4 h5
      have ha' : 0 < a := of_num_pos h4
      have hb' : b < 0 := (Rat.lt_iff b 0).2 (by simpa using h5)
      have h6 := ha.least 0 (by have := hb.above; grind) (by have := ha.below; grind)
      simp only [Rat.den_ofNat, Rat.num_ofNat] at h6
      have := a.den_pos
      have : (0 : Int).natAbs = 0 := rfl
      omega
    rcases Int.lt_trichotomy x.num 0 with h4 | h4 | h4
    · exact key y x hy hx (by omega) h4
    · omega
    · exact key x y hx hy h4 (by omega)

theorem simp_wmp_neg {lo hi z : Rat} (h0 : lo < 0) (hlt : lo < hi) (hup : hi ≤ (qfloor lo : Rat) + 1) (h : Simp (nextLo lo hi) (nextHi lo) z) : Wmp lo hi ((qfloor lo : Rat) + z⁻¹) := by
  obtain ⟨hz, h1, h2⟩ := of_next hlt h.mem
  have hf : qfloor lo < 0 := by
    have h1 := qfloor_le lo
    have h2 : (qfloor lo : Rat) < ((0 : Int) : Rat) := by simp; grind
    exact Rat.intCast_lt_intCast.1 h2
  refine ⟨h1, h2, fun y hy1 hy2 => ?_⟩
  have hfy : (qfloor lo : Rat) < y := by have := qfloor_le lo; grind
  have hI := in_next ⟨hy1, hy2⟩
  have hl := h.least _ hI
  have hb := back_parts hfy
  have hs := step_parts (n := qfloor lo) hz
  have hy0 : 0 < (y - (qfloor lo : Rat))⁻¹ := Rat.inv_pos.2 (by grind)
  have hyn := num_pos hy0
  have hzn := num_pos hz
  have hge : 1 < (y - (qfloor lo : Rat))⁻¹ := by
    have hh : 0 < hi - (qfloor lo : Rat) := by have := qfloor_le lo; grind
    have := (inv_lt (a := 1) (b := y - (qfloor lo : Rat)) (by decide) (by grind)).2 (by grind)
    have e : (1 : Rat)⁻¹ = 1 := by decide +kernel
    rw [e] at this
    exact this
  have hge2 : ((y - (qfloor lo : Rat))⁻¹.den : Int) < (y - (qfloor lo : Rat))⁻¹.num := by
    have := (int_lt_rat (n := 1) (y := (y - (qfloor lo : Rat))⁻¹)).1 (by simpa using hge)
    omega
  have hlast : ∀ w : Rat, In (nextLo lo hi) (nextHi lo) w → z.num ≤ w.num := fun w hw => (h.least w hw).2
  by_cases hd : z.num = (y - (qfloor lo : Rat))⁻¹.num
  · -- the same Den: the same number
    have hden : z.den = (y - (qfloor lo : Rat))⁻¹.den := by
      rcases Nat.lt_or_ge z.den (y - (qfloor lo : Rat))⁻¹.den with hlt2 | hge3
      · exfalso
        have hw1 : (y - (qfloor lo : Rat))⁻¹ ≤ mkRat (z.num - 1) z.den := by
          have e : mkRat (z.num - 1) z.den = Rat.divInt (z.num - 1) (z.den : Int) := (Rat.divInt_ofNat _ _).symm
          rw [Rat.le_iff_sub_nonneg, e]
          rw [show (y - (qfloor lo : Rat))⁻¹ = Rat.divInt (y - (qfloor lo : Rat))⁻¹.num ((y - (qfloor lo : Rat))⁻¹.den : Int) from (Rat.num_divInt_den _).symm]
          have hd1 := z.den_pos
          have hd2 := (y - (qfloor lo : Rat))⁻¹.den_pos
          rw [Rat.divInt_sub_divInt _ _ (by omega) (by omega)]
          refine Rat.divInt_nonneg ?_ (Int.mul_nonneg (by omega) (by omega))
          rw [hd]
          rw [hd] at hzn
          generalize (y - (qfloor lo : Rat))⁻¹.num = a at *
          generalize (y - (qfloor lo : Rat))⁻¹.den = b' at *
          generalize z.den = b at *
          have h5 : (a - 1) * ((b : Int) + 1) ≤ (a - 1) * b' := Int.mul_le_mul_of_nonneg_left (by omega) (by omega)
          have h6 : (a - 1) * ((b : Int) + 1) = a * b + a - b - 1 := by rw [Int.sub_mul, Int.mul_add]; omega
          omega
        have hw2 : mkRat (z.num - 1) z.den < z := by
          have hd1 := z.den_pos
          have e : z = mkRat z.num z.den := (Rat.mkRat_self z).symm
          have e2 : mkRat (z.num - 1) z.den = z - mkRat 1 z.den := by
            conv => rhs; lhs; rw [e]
            rw [← Rat.divInt_ofNat, ← Rat.divInt_ofNat, ← Rat.divInt_ofNat, Rat.divInt_sub_divInt _ _ (by omega) (by omega), ← Int.sub_mul]
            rw [Rat.divInt_mul_right (by omega)]
          have hp : 0 < mkRat 1 z.den := by
            have h7 : 0 ≤ mkRat 1 z.den := by rw [← Rat.divInt_ofNat]; exact Rat.divInt_nonneg (by omega) (by omega)
            have h8 : mkRat 1 z.den ≠ 0 := (Rat.mkRat_ne_zero (by omega)).2 (by omega)
            grind
          rw [e2]; grind
        have hw3 : (mkRat (z.num - 1) z.den).num ≤ z.num - 1 := by
          rw [Rat.num_mkRat, if_neg (by have := z.den_pos; omega)]
          exact Int.ediv_le_self _ (by omega)
        have := hlast (mkRat (z.num - 1) z.den) ⟨by have := hI.1; grind, fun t ht => by have := h.mem.2 t ht; grind⟩
        omega
      · exact Nat.le_antisymm hl.1 hge3
    have he : z = (y - (qfloor lo : Rat))⁻¹ := Rat.ext hd hden
    have : (qfloor lo : Rat) + z⁻¹ = y := by rw [he, Rat.inv_inv]; grind
    rw [this]
    right; exact ⟨rfl, Nat.le_refl _⟩
  · left
    have h4 := hl.2
    have : (((qfloor lo : Rat) + z⁻¹).den : Int) < (y.den : Int) := by
      rw [hs.2]
      rw [hb.1] at h4 hd
      omega
    exact Int.ofNat_lt.1 this
/-! ### How the search goes -/
/-- The whole numbers that are met on the way down. -/
inductive Bt : Rat → Option Rat → List Int → Prop where
  | done (lo : Rat) (hi : Option Rat) (h : ∀ h, hi = some h → (qfloor lo : Rat) + 1 < h) : Bt lo hi [qfloor lo + 1]
  | step (lo hi : Rat) (t : List Int) (h1 : lo < hi) (h2 : hi ≤ (qfloor lo : Rat) + 1) (h3 : Bt (nextLo lo hi) (nextHi lo) t) : Bt lo (some hi) (qfloor lo :: t)

theorem qfloor_nonneg {q : Rat} (h : 0 ≤ q) : 0 ≤ qfloor q := le_qfloor.2 (by simpa using h)
theorem nextLo_parts {lo hi : Rat} (h : lo < hi) : (nextLo lo hi).num = hi.den ∧ ((nextLo lo hi).den : Int) = hi.num - qfloor lo * hi.den := back_parts (by have := qfloor_le lo; grind)
theorem nextLo_ge {lo hi : Rat} (h : lo < hi) (h2 : hi ≤ (qfloor lo : Rat) + 1) : ((nextLo lo hi).den : Int) ≤ hi.den ∧ 1 ≤ nextLo lo hi := by
  have h1 := nextLo_parts h
  have e : (qfloor lo : Rat) + 1 = ((qfloor lo + 1 : Int) : Rat) := by simp
  have h3 : ((nextLo lo hi).den : Int) ≤ hi.den := by
    rw [e, Rat.le_iff] at h2
    simp only [Rat.num_intCast, Rat.den_intCast, Int.natCast_one, Int.mul_one, Int.add_mul, Int.one_mul] at h2
    rw [h1.2]
    omega
  refine ⟨h3, (Rat.le_iff 1 _).2 ?_⟩
  simp only [Rat.num_ofNat, Rat.den_ofNat]
  rw [h1.1]
  omega
theorem nextHi_parts {lo h : Rat} (hh : nextHi lo = some h) : h.num = lo.den ∧ (h.den : Int) = lo.num - qfloor lo * lo.den ∧ h.den < lo.den := by
  unfold nextHi at hh
  split at hh
  · cases hh
  rename_i hne
  simp only [Option.some.injEq] at hh
  subst hh
  have hp := back_parts (n := qfloor lo) (y := lo) (by have := qfloor_le lo; grind)
  refine ⟨hp.1, hp.2, ?_⟩
  have h1 := lt_qfloor lo
  have e : (qfloor lo : Rat) + 1 = ((qfloor lo + 1 : Int) : Rat) := by simp
  rw [e, rat_lt_int, Int.add_mul] at h1
  have := hp.2
  omega
theorem next_lt {lo hi : Rat} (h : lo < hi) : ∀ t, nextHi lo = some t → nextLo lo hi < t := by
  intro t ht
  unfold nextHi at ht
  split at ht
  · cases ht
  rename_i hne
  simp only [Option.some.injEq] at ht
  subst ht
  have := qfloor_le lo
  exact (inv_lt (by grind) (by grind)).2 (by grind)

def dn : Option Rat → Nat
  | none => 0
  | some h => h.den

theorem Bt.exists : ∀ (m : Nat) (lo : Rat) (hi : Option Rat), lo.den + dn hi ≤ m → (∀ h, hi = some h → lo < h) → ∃ t, Bt lo hi t := by
  intro m
  induction m with
  | zero => intro lo hi hm; have := lo.den_pos; omega
  | succ m ih =>
    intro lo hi hm hlt
    by_cases h : ∀ h, hi = some h → (qfloor lo : Rat) + 1 < h
    · exact ⟨_, .done lo hi h⟩
    · match hi with
      | none => exact absurd (fun h hh => by cases hh) h
      | some hi =>
        have hl := hlt hi rfl
        have h2 : hi ≤ (qfloor lo : Rat) + 1 := Rat.not_lt.1 fun h3 => h fun t ht => by cases ht; exact h3
        have g1 := (nextLo_ge hl h2).1
        obtain ⟨t, ht⟩ := ih (nextLo lo hi) (nextHi lo) (by
          simp only [dn] at hm
          cases hn : nextHi lo with
          | none => have := lo.den_pos; simp only [dn]; omega
          | some t => have := (nextHi_parts hn).2.2; simp only [dn]; omega) (next_lt hl)
        exact ⟨_, .step lo hi t hl h2 ht⟩

theorem Bt.ne {lo : Rat} {hi : Option Rat} {t : List Int} (h : Bt lo hi t) : t ≠ [] := by cases h <;> simp
theorem fold_cons (x : Int) {t : List Int} (h : t ≠ []) : fold (x :: t) = (x : Rat) + (fold t)⁻¹ := by
  cases t with
  | nil => exact absurd rfl h
  | cons y ys => rfl

theorem Bt.pos {lo : Rat} {hi : Option Rat} {t : List Int} (h : Bt lo hi t) : (0 ≤ lo → ∀ x ∈ t.drop 1, 0 < x) ∧ (1 ≤ lo → ∀ x ∈ t, 0 < x) := by
  induction h with
  | done lo hi h =>
    refine ⟨fun _ x hx => by simp at hx, fun h0 x hx => ?_⟩
    simp only [List.mem_singleton] at hx
    have := qfloor_nonneg (q := lo) (by grind)
    omega
  | step lo hi t h1 h2 h3 ih =>
    have hg := (nextLo_ge h1 h2).2
    have hp := ih.2 hg
    refine ⟨fun _ x hx => hp x (by simpa using hx), fun h0 x hx => ?_⟩
    rcases List.mem_cons.1 hx with hx | hx
    · have := le_qfloor (n := 1) (q := lo) |>.2 (by simpa using h0)
      omega
    · exact hp x hx

theorem Bt.simp {lo : Rat} {hi : Option Rat} {t : List Int} (h : Bt lo hi t) : 0 ≤ lo → Simp lo hi (fold t) := by
  induction h with
  | done lo hi h =>
    intro h0
    have e : fold [qfloor lo + 1] = (qfloor lo : Rat) + 1 := by
      show ((qfloor lo + 1 : Int) : Rat) = _
      simp
    rw [e]
    exact simp_int h0 h
  | step lo hi t h1 h2 h3 ih =>
    intro h0
    rw [fold_cons _ h3.ne]
    have hg := (nextLo_ge h1 h2).2
    exact simp_step h0 h1 (ih (by grind))

/-! ### Sizes -/
structure Bd (D : Nat) (q : Rat) : Prop where
  num : LZ q.num ≤ D
  den : L q.den ≤ D
theorem Bd.LQ {D : Nat} {q : Rat} (h : Bd D q) : LQ q ≤ 2 * D := by have := h.num; have := h.den; unfold FK.LQ; omega
theorem Bd.of {D : Nat} {q : Rat} (h : FK.LQ q ≤ D) : Bd D q := ⟨Nat.le_trans (LQ_num q) h, Nat.le_trans (LQ_den q) h⟩
theorem Bd.nextLo {D : Nat} {lo hi : Rat} (h : Bd D hi) (h1 : lo < hi) (h2 : hi ≤ (qfloor lo : Rat) + 1) : Bd D (nextLo lo hi) := by
  have hp := (nextLo_parts h1).1
  have hg := (nextLo_ge h1 h2).1
  have hd := h.den
  constructor
  · rw [hp, LZ_nat]; exact hd
  · exact Nat.le_trans (L_mono (by omega)) hd
theorem Bd.nextHi {D : Nat} {lo t : Rat} (h : Bd D lo) (ht : nextHi lo = some t) : Bd D t := by
  have hp := nextHi_parts ht
  have hd := h.den
  constructor
  · rw [hp.1, LZ_nat]; exact hd
  · exact Nat.le_trans (L_mono (by omega)) hd

theorem Simp.size {D : Nat} {lo x : Rat} {hi : Option Rat} (h0 : 0 ≤ lo) (hl : ∀ h, hi = some h → lo < h) (h : Simp lo hi x) (h1 : Bd D lo) (h2 : ∀ h, hi = some h → Bd D h) : FK.LQ x ≤ 8 * D + 4 := by
  have key : ∀ y, In lo hi y → FK.LQ x ≤ FK.LQ y := by
    intro y hy
    have hx : 0 < x.num := num_pos (by have := h.mem.1; grind)
    have hl := h.least y hy
    have a1 : LZ x.num ≤ LZ y.num := L_mono (by omega)
    have a2 : L x.den ≤ L y.den := L_mono hl.1
    unfold FK.LQ
    omega
  cases hi with
  | none =>
    refine Nat.le_trans (key ((qfloor lo + 1 : Int) : Rat) ⟨?_, fun t ht => by cases ht⟩) ?_
    · have := lt_qfloor lo
      rw [Rat.intCast_add]
      exact this
    · unfold FK.LQ
      rw [Rat.num_intCast, Rat.den_intCast, L_one]
      have a1 := LZ_add (qfloor lo) 1
      have a2 := LZ_qfloor lo
      have a3 := h1.LQ
      have a4 : LZ 1 = 1 := L_one
      omega
  | some hi =>
    have hlt := hl hi rfl
    refine Nat.le_trans (key ((lo + hi) * mkRat 1 2) ?_) ?_
    · have e : mkRat 1 2 = (1 : Rat) / 2 := by decide +kernel
      rw [e]
      refine ⟨?_, fun t ht => ?_⟩
      · grind
      · cases ht; grind
    · have a1 := LQ_mul (lo + hi) (mkRat 1 2)
      have a2 := LQ_add lo hi
      have a3 := h1.LQ
      have a4 := (h2 hi rfl).LQ
      have a5 : FK.LQ (mkRat 1 2) ≤ 2 := by
        have e1 : (mkRat 1 2).num = 1 := by decide +kernel
        have e2 : (mkRat 1 2).den = 2 := by decide +kernel
        unfold FK.LQ
        rw [e1, e2]
        have : L 2 ≤ 1 := L_small (by omega)
        have : LZ 1 = 1 := L_one
        omega
      omega

theorem Bt.size {D : Nat} {lo : Rat} {hi : Option Rat} {t : List Int} (h : Bt lo hi t) : 0 ≤ lo → Bd D lo → (∀ h, hi = some h → lo < h ∧ Bd D h) → (∀ i, i < t.length → FK.LQ (fold (t.drop i)) ≤ 8 * D + 4) ∧ ∀ x ∈ t, LZ x ≤ 2 * D + 3 := by
  induction h with
  | done lo hi h =>
    intro h0 h1 h2
    refine ⟨fun i hi' => ?_, fun x hx => ?_⟩
    · simp only [List.length_singleton] at hi'
      rw [show i = 0 by omega, List.drop_zero]
      exact (Bt.done lo hi h).simp h0 |>.size h0 (fun t ht => (h2 t ht).1) h1 (fun t ht => (h2 t ht).2)
    · simp only [List.mem_singleton] at hx
      subst hx
      have a1 := LZ_add (qfloor lo) 1
      have a2 := LZ_qfloor lo
      have a3 := h1.LQ
      have a4 : LZ 1 = 1 := L_one
      omega
  | step lo hi t h1 h2 h3 ih =>
    intro h0 h4 h5
    have hg := (nextLo_ge h1 h2).2
    obtain ⟨i1, i2⟩ := ih (by grind) ((h5 hi rfl).2.nextLo h1 h2) (fun t ht => ⟨next_lt h1 t ht, h4.nextHi ht⟩)
    refine ⟨fun i hi' => ?_, fun x hx => ?_⟩
    · cases i with
      | zero => exact (Bt.step lo hi t h1 h2 h3).simp h0 |>.size h0 (fun t ht => (h5 t ht).1) h4 (fun t ht => (h5 t ht).2)
      | succ i => exact i1 i (by simpa using hi')
    · rcases List.mem_cons.1 hx with hx | hx
      · subst hx
        have a2 := LZ_qfloor lo
        have a3 := h4.LQ
        omega
      · exact i2 x hx

/-- A continued fraction's length. -/
theorem fold_parts (x : Int) {t : List Int} (h : t ≠ []) (hp : ∀ y ∈ t, 0 < y) : (fold (x :: t)).num = x * (fold t).num + (fold t).den ∧ ((fold (x :: t)).den : Int) = (fold t).num := by
  have h1 := fold_ge_one t h hp
  rw [fold_cons x h]
  exact step_parts (by grind)
theorem fold_pos_num {t : List Int} (h : t ≠ []) (hp : ∀ y ∈ t, 0 < y) : 1 ≤ (fold t).num := by
  have h1 := fold_ge_one t h hp
  have : 0 < fold t := by grind
  exact num_pos this
theorem fold_len : ∀ (m : Nat) (t : List Int), t.length ≤ m → t ≠ [] → (∀ y ∈ t, 0 < y) → (2 : Int) ^ (t.length / 2) ≤ (fold t).num := by
  intro m
  induction m with
  | zero => intro t h h0; exact absurd (List.eq_nil_of_length_eq_zero (by omega)) h0
  | succ m ih =>
    intro t hm h0 hp
    match t, h0 with
    | [x], _ =>
      have : 0 < x := hp x (by simp)
      show (2 : Int) ^ (1 / 2) ≤ x
      have : (2 : Int) ^ (1 / 2) = 1 := by decide
      omega
    | [x, y], _ =>
      have h1 := fold_parts x (t := [y]) (by simp) (fun z hz => hp z (by simp at hz; simp [hz]))
      have h2 := fold_pos_num (t := [y]) (by simp) (fun z hz => hp z (by simp at hz; simp [hz]))
      have h3 := (fold [y]).den_pos
      have hx : 0 < x := hp x (by simp)
      have : (2 : Int) ^ ([x, y].length / 2) = 2 := by show (2 : Int) ^ (2 / 2) = 2; decide
      rw [this, h1.1]
      have : 1 * (fold [y]).num ≤ x * (fold [y]).num := Int.mul_le_mul_of_nonneg_right (by omega) (by omega)
      omega
    | x :: y :: z :: zs, _ =>
      have hp1 : ∀ w ∈ y :: z :: zs, 0 < w := fun w hw => hp w (List.mem_cons_of_mem _ hw)
      have hp2 : ∀ w ∈ z :: zs, 0 < w := fun w hw => hp1 w (List.mem_cons_of_mem _ hw)
      have h1 := fold_parts x (t := y :: z :: zs) (by simp) hp1
      have h2 := fold_parts y (t := z :: zs) (by simp) hp2
      have h3 := ih (z :: zs) (by simp only [List.length_cons] at hm ⊢; omega) (by simp) hp2
      have hx : 0 < x := hp x (by simp)
      have hy : 0 < y := hp1 y (by simp)
      have h4 := fold_pos_num (t := y :: z :: zs) (by simp) hp1
      have h5 := fold_pos_num (t := z :: zs) (by simp) hp2
      have e : (x :: y :: z :: zs).length / 2 = (z :: zs).length / 2 + 1 := by simp only [List.length_cons]; omega
      rw [e, Int.pow_succ, h1.1]
      have b1 : 1 * (fold (y :: z :: zs)).num ≤ x * (fold (y :: z :: zs)).num := Int.mul_le_mul_of_nonneg_right (by omega) (by omega)
      have b2 : 1 * (fold (z :: zs)).num ≤ y * (fold (z :: zs)).num := Int.mul_le_mul_of_nonneg_right (by omega) (by omega)
      have := (fold (z :: zs)).den_pos
      omega
theorem fold_short {K : Nat} {t : List Int} (h : t ≠ []) (hp : ∀ y ∈ t, 0 < y) (hK : LZ (fold t).num ≤ K) : t.length ≤ 64 * K + 1 := by
  have h1 := fold_len t.length t (Nat.le_refl _) h hp
  have h2 := fold_pos_num h hp
  have h3 := L_lt (fold t).num.natAbs
  have h4 : 4294967296 ^ L (fold t).num.natAbs ≤ 4294967296 ^ K := Nat.pow_le_pow_right (by omega) hK
  have h5 : (2 : Nat) ^ (t.length / 2) < 2 ^ (32 * K) := by
    rw [Nat.pow_mul]
    have e : (2 : Nat) ^ 32 = 4294967296 := by decide
    rw [e]
    have : ((2 ^ (t.length / 2) : Nat) : Int) ≤ ((fold t).num.natAbs : Int) := by
      rw [Int.natCast_pow]
      have : ((fold t).num.natAbs : Int) = (fold t).num := by omega
      rw [this]; exact h1
    omega
  have := (Nat.pow_lt_pow_iff_right (a := 2) (by omega)).1 h5
  omega

end Go.FK
