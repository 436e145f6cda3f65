import Derived.Test.YtkkijdbgnnmjhaaGreatDoorM2
import Derived.Test.YtkkijdbgnnmjhaaGreatDoorF3

/- The plain law: what comes in, what the laws use. -/
namespace Go.FK

abbrev tyNat : Ty := .list (.int .u32)
abbrev tyInt : Ty := .st (.pair .bool tyNat)
abbrev tyRat : Ty := .st (.pair tyInt tyNat)

theorem nat_wf {a : List Int} (h : tyNat.wf a) : Lim a := by
  intro x hx
  have h2 : IntKind.u32.min ≤ x ∧ x ≤ IntKind.u32.max := h.2 x hx
  have e1 : IntKind.u32.min = 0 := by decide
  have e2 : IntKind.u32.max = 4294967295 := by decide
  rw [e1, e2] at h2
  simp only [B]
  omega
theorem nat_mass (a : List Int) : tyNat.mass a = a.length + 1 := by
  have : ∀ l : List Int, (l.map fun _ => 1).sum = l.length := by
    intro l
    induction l with
    | nil => rfl
    | cons x xs ih => simp only [List.map_cons, List.sum_cons, ih, List.length_cons]; omega
  show (a.map fun _ => 1).sum + 1 = _
  rw [this]
theorem rat_rt {r : RR} (h : tyRat.wf r) {M : Nat} (hM : tyRat.mass r ≤ M) : Rt M r (Qv r) := by
  have h1 : tyNat.wf r.1.2 := h.1.2
  have h2 : tyNat.wf r.2 := h.2
  have hm : tyRat.mass r = (1 + tyNat.mass r.1.2) + tyNat.mass r.2 := rfl
  rw [nat_mass, nat_mass] at hm
  exact ⟨nat_wf h1, nat_wf h2, by omega, by omega, rfl⟩

theorem half_rt {M : Nat} (hM : 1 ≤ M) : Rt M ((false, [1]), [2]) (mkRat 1 2) := by
  refine ⟨Lim.mk (by simp [B]) Lim.nil, Lim.mk (by simp [B]) Lim.nil, by simpa using hM, by simpa using hM, ?_⟩
  unfold Qv Zv
  simp [V]

end Go.FK


/- The plain law of the second Ratio seat: the small fixed question; Norms, Field. -/
namespace Go.FK

theorem Ev.eq {α : Type} {r s : α} (h : r = s) : Ev (fun _ => Option.some r) s := h ▸ Ev.pure

theorem int_mass (a : Bool × List Int) : tyInt.mass a = a.2.length + 2 := by
  have e : tyInt.mass a = 1 + tyNat.mass a.2 := rfl
  rw [e, nat_mass]; omega
theorem int_zt {a : Bool × List Int} (h : tyInt.wf a) {M : Nat} (hM : tyInt.mass a ≤ M) : Zt M a (Zv a) := by
  have h1 : tyNat.wf a.2 := h.2
  rw [int_mass] at hM
  exact ⟨nat_wf h1, rfl, by omega⟩
/-! ### The reference's whole ratio of a small number -/
theorem ref01_Of_ev {n : Int} (h : 0 ≤ n ∧ n < 18446744073709551616) : Ev (fun k => ref01_Of.f k n) (lim n.toNat) := by
  unfold ref01_Of.f ref01_Of.e
  have e1 : IntKind.u32.wrap n = n % 4294967296 := wrap_u32 n
  have e2 : IntKind.u32.wrap (Int.fdiv n (2 ^ 32)) = n / 4294967296 := by
    rw [Int.fdiv_eq_ediv_of_nonneg _ (by omega), wrap_u32]; omega
  rw [e1, e2]
  have o : Nt 2 [n % 4294967296, n / 4294967296] n.toNat := ⟨Lim.mk (by simp only [B]; omega) (Lim.mk (by simp only [B]; omega) Lim.nil), by simp only [V, B]; omega, by simp⟩
  exact Ev.bind (o.rNorm (by omega)) Ev.pure

theorem ref02_Of_ev {n : Int} (h : -9223372036854775808 ≤ n ∧ n ≤ 9223372036854775807) : Ev (fun k => ref02_Of.f k n) (int n) := by
  unfold ref02_Of.f ref02_Of.e
  have hL : L n.natAbs ≤ 2 := L_le (by omega)
  have n1 : Nt 2 (lim n.natAbs) n.natAbs := Nt.of hL
  by_cases h0 : n < 0
  · have e1 : IntKind.u64.wrap (0 - IntKind.u64.wrap n) = -n := by simp only [wrap_u64]; omega
    rw [e1]
    have e2 : (-n).toNat = n.natAbs := by omega
    have := ref01_Of_ev (n := -n) (by omega)
    rw [e2] at this
    exact Ev.tru (dec_t h0) (Ev.bind this (Ev.bind (r2made_ev n1 (by omega) (by rw [if_pos rfl]; omega)) Ev.pure))
  · have e1 : IntKind.u64.wrap n = n := wrap_u64_id (by omega) (by omega)
    rw [e1]
    have e2 : n.toNat = n.natAbs := by omega
    have := ref01_Of_ev (n := n) (by omega)
    rw [e2] at this
    exact Ev.fls (dec_f h0) (Ev.bind this (Ev.bind (r2made_ev n1 (by omega) (by rw [if_neg (by simp)]; omega)) Ev.pure))

theorem one_nt {M : Nat} (h1 : 1 ≤ M) : Nt M [1] 1 := ⟨Lim.mk (by simp [B]) Lim.nil, by simp [V], by simpa using h1⟩

theorem ref03_Whole_ev {n : Int} (h : -9223372036854775808 ≤ n ∧ n ≤ 9223372036854775807) : Ev (fun k => ref03_Whole.f k n) (rat (n : Rat)) := by
  unfold ref03_Whole.f ref03_Whole.e
  have hz : Zt 2 (int n) n := Zt.of (L_le (by omega))
  have := Rt.mk2 hz (one_nt (by omega))
  rw [show mkRat n 1 = (n : Rat) from Rat.mkRat_self (n : Rat)] at this
  exact Ev.bind (ref02_Of_ev h) (Ev.bind (this.rnorm (by omega)) Ev.pure)

/-! ### Norms -/
theorem LQ_int (n : Int) : LQ (n : Rat) = LZ n + 1 := by unfold LQ; rw [Rat.num_intCast, Rat.den_intCast, L_one]

end Go.FK


/- The plain law of the second Ratio seat: Field. -/
namespace Go.FK

theorem qs_anti (p q : Rat) : qs q p = - qs p q := by
  unfold qs
  rw [← Int.sign_neg]
  congr 1
  omega
theorem qs_add_right (p q r : Rat) : qs (p + r) (q + r) = qs p q := by
  have e : p + r - (q + r) = p - q := by
    rw [Rat.sub_eq_add_neg, Rat.sub_eq_add_neg, Rat.neg_add, Rat.add_assoc, ← Rat.add_assoc r, Rat.add_comm r, Rat.add_assoc (-q), Rat.add_neg_cancel, Rat.add_zero]
  rw [← qs_sub, ← qs_sub, e]
theorem sign_mul (p q : Rat) : (p * q).num.sign = p.num.sign * q.num.sign := by
  rw [Rat.num_mul, ← Int.sign_mul]
  have hg : 0 < (p.num * q.num).natAbs.gcd (p.den * q.den) := Nat.gcd_pos_of_pos_right _ (Nat.mul_pos p.den_pos q.den_pos)
  have hd : (((p.num * q.num).natAbs.gcd (p.den * q.den) : Nat) : Int) ∣ p.num * q.num := Int.dvd_natAbs.1 (Int.natCast_dvd_natCast.2 (Nat.gcd_dvd_left _ _))
  obtain ⟨c, hc⟩ := hd
  generalize (p.num * q.num).natAbs.gcd (p.den * q.den) = g at hg hc
  rw [hc, Int.mul_ediv_cancel_left _ (by omega), Int.sign_mul, Int.sign_eq_one_of_pos (a := (g : Int)) (by omega), Int.one_mul]
theorem qs_mul_right (p q r : Rat) : qs (p * r) (q * r) = qs p q * r.num.sign := by
  have e : p * r - q * r = (p - q) * r := by
    rw [Rat.sub_eq_add_neg, Rat.sub_eq_add_neg, Rat.add_mul, Rat.neg_mul]
  rw [← qs_sub, e, sign_mul, qs_sub]

theorem num_sign_zero {p : Rat} : p.num.sign = 0 ↔ p = 0 := by rw [Int.sign_eq_zero_iff_zero, Rat.num_eq_zero]

variable {M : Nat} {a b c : RR} {p q s : Rat}

end Go.FK
