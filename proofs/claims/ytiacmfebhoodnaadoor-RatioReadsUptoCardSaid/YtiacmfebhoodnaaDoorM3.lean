import Derived.Test.YtiacmfebhoodnaaDoorM2
import Derived.Test.YtiacmfebhoodnaaDoorF3

/- The plain law: what comes in, what the laws use. -/
namespace Go.FK

abbrev tyNat : Ty := .list (.int .u32)
abbrev tyInt : Ty := .st (.pair .bool tyNat)
abbrev tyRat : Ty := .st (.pair tyInt tyNat)

theorem nat_wf {a : List Int} (h : tyNat.wf a) : Lim a := by
  intro x hx
  have h2 : IntKind.u32.min ≤ x ∧ x ≤ IntKind.u32.max := h.2 x hx
  have e1 : IntKind.u32.min = 0 := by decide
  have e2 : IntKind.u32.max = 4294967295 := by decide
  rw [e1, e2] at h2
  simp only [B]
  omega
theorem nat_mass (a : List Int) : tyNat.mass a = a.length + 1 := by
  have : ∀ l : List Int, (l.map fun _ => 1).sum = l.length := by
    intro l
    induction l with
    | nil => rfl
    | cons x xs ih => simp only [List.map_cons, List.sum_cons, ih, List.length_cons]; omega
  show (a.map fun _ => 1).sum + 1 = _
  rw [this]
theorem rat_rt {r : RR} (h : tyRat.wf r) {M : Nat} (hM : tyRat.mass r ≤ M) : Rt M r (Qv r) := by
  have h1 : tyNat.wf r.1.2 := h.1.2
  have h2 : tyNat.wf r.2 := h.2
  have hm : tyRat.mass r = (1 + tyNat.mass r.1.2) + tyNat.mass r.2 := rfl
  rw [nat_mass, nat_mass] at hm
  exact ⟨nat_wf h1, nat_wf h2, by omega, by omega, rfl⟩

theorem Rt.twin {M : Nat} {r : RR} {q : Rat} (h : Rt M r q) (hM : M ≤ 70368744177664) : Ev (fun k => law03_twin.f k r) r := by
  have h1 := h.nlen
  have h2 := h.dlen
  have hw : Ev (fun k => law03_whole.f k r.1) r.1 := by
    unfold law03_whole.f law03_whole.e
    exact Ev.bind (law03_nat_ev r.1.2 (by omega)) Ev.pure
  unfold law03_twin.f law03_twin.e
  exact Ev.bind hw (Ev.bind (law03_nat_ev r.2 (by omega)) Ev.pure)

theorem same_rat {M : Nat} {q : Rat} (h : LQ q ≤ M) (hM : M ≤ 35184372088832) : Ev (fun k => law03_same.f k (rat q) (rat q)) true := by
  unfold law03_same.f law03_same.e
  have h1 := LQ_num q
  have h2 := LQ_den q
  have := r3Same_ev (rat q) (rat q) (by show L q.num.natAbs ≤ _; unfold LZ at h1; omega) (by show L q.den ≤ _; omega)
  rw [dec_t rfl] at this
  exact Ev.bind this Ev.pure
theorem none_noRat : Ev (fun k => law03_none.f k noRat) true := by
  unfold law03_none.f law03_none.e noRat
  exact Ev.tru rfl (Ev.tru (by simp) Ev.pure)

theorem half_rt {M : Nat} (hM : 1 ≤ M) : Rt M ((false, [1]), [2]) (mkRat 1 2) := by
  refine ⟨Lim.mk (by simp [B]) Lim.nil, Lim.mk (by simp [B]) Lim.nil, by simpa using hM, by simpa using hM, ?_⟩
  unfold Qv Zv
  simp [V]

end Go.FK


/- The plain law of the second Ratio seat: the small fixed question; Norms, Field. -/
namespace Go.FK

theorem half_at (n : Nat) : law03_half.f (n + 64) () = some true := by kernel_rfl
theorem half_ev : Ev (fun k => law03_half.f k ()) true := ⟨64, fun k hk => by
  obtain ⟨n, rfl⟩ : ∃ n, k = n + 64 := ⟨k - 64, by omega⟩
  exact half_at n⟩

theorem Ev.eq {α : Type} {r s : α} (h : r = s) : Ev (fun _ => Option.some r) s := h ▸ Ev.pure

theorem int_mass (a : Bool × List Int) : tyInt.mass a = a.2.length + 2 := by
  have e : tyInt.mass a = 1 + tyNat.mass a.2 := rfl
  rw [e, nat_mass]; omega
theorem int_zt {a : Bool × List Int} (h : tyInt.wf a) {M : Nat} (hM : tyInt.mass a ≤ M) : Zt M a (Zv a) := by
  have h1 : tyNat.wf a.2 := h.2
  rw [int_mass] at hM
  exact ⟨nat_wf h1, rfl, by omega⟩
theorem Zt.twin {M : Nat} {a : Bool × List Int} {z : Int} (h : Zt M a z) (hM : M ≤ 70368744177664) : Ev (fun k => law03_whole.f k a) a := by
  have h1 := h.len
  unfold law03_whole.f law03_whole.e
  exact Ev.bind (law03_nat_ev a.2 (by omega)) Ev.pure
theorem same_eq {M : Nat} {p q : Rat} (e : p = q) (h : LQ p ≤ M) (hM : M ≤ 35184372088832) : Ev (fun k => law03_same.f k (rat p) (rat q)) true := e ▸ same_rat h hM
theorem same_none : Ev (fun k => law03_same.f k noRat noRat) true := by
  unfold law03_same.f law03_same.e
  have := r3Same_ev noRat noRat (by simp [noRat]) (by simp [noRat])
  rw [dec_t rfl] at this
  exact Ev.bind this Ev.pure

/-! ### The reference's whole ratio of a small number -/
theorem ref01_Of_ev {n : Int} (h : 0 ≤ n ∧ n < 18446744073709551616) : Ev (fun k => ref01_Of.f k n) (lim n.toNat) := by
  unfold ref01_Of.f ref01_Of.e
  have e1 : IntKind.u32.wrap n = n % 4294967296 := wrap_u32 n
  have e2 : IntKind.u32.wrap (Int.fdiv n (2 ^ 32)) = n / 4294967296 := by
    rw [Int.fdiv_eq_ediv_of_nonneg _ (by omega), wrap_u32]; omega
  rw [e1, e2]
  have o : Nt 2 [n % 4294967296, n / 4294967296] n.toNat := ⟨Lim.mk (by simp only [B]; omega) (Lim.mk (by simp only [B]; omega) Lim.nil), by simp only [V, B]; omega, by simp⟩
  exact Ev.bind (o.rNorm (by omega)) Ev.pure

theorem ref02_Of_ev {n : Int} (h : -9223372036854775808 ≤ n ∧ n ≤ 9223372036854775807) : Ev (fun k => ref02_Of.f k n) (int n) := by
  unfold ref02_Of.f ref02_Of.e
  have hL : L n.natAbs ≤ 2 := L_le (by omega)
  have n1 : Nt 2 (lim n.natAbs) n.natAbs := Nt.of hL
  by_cases h0 : n < 0
  · have e1 : IntKind.u64.wrap (0 - IntKind.u64.wrap n) = -n := by simp only [wrap_u64]; omega
    rw [e1]
    have e2 : (-n).toNat = n.natAbs := by omega
    have := ref01_Of_ev (n := -n) (by omega)
    rw [e2] at this
    exact Ev.tru (dec_t h0) (Ev.bind this (Ev.bind (r2made_ev n1 (by omega) (by rw [if_pos rfl]; omega)) Ev.pure))
  · have e1 : IntKind.u64.wrap n = n := wrap_u64_id (by omega) (by omega)
    rw [e1]
    have e2 : n.toNat = n.natAbs := by omega
    have := ref01_Of_ev (n := n) (by omega)
    rw [e2] at this
    exact Ev.fls (dec_f h0) (Ev.bind this (Ev.bind (r2made_ev n1 (by omega) (by rw [if_neg (by simp)]; omega)) Ev.pure))

theorem one_nt {M : Nat} (h1 : 1 ≤ M) : Nt M [1] 1 := ⟨Lim.mk (by simp [B]) Lim.nil, by simp [V], by simpa using h1⟩

theorem ref03_Whole_ev {n : Int} (h : -9223372036854775808 ≤ n ∧ n ≤ 9223372036854775807) : Ev (fun k => ref03_Whole.f k n) (rat (n : Rat)) := by
  unfold ref03_Whole.f ref03_Whole.e
  have hz : Zt 2 (int n) n := Zt.of (L_le (by omega))
  have := Rt.mk2 hz (one_nt (by omega))
  rw [show mkRat n 1 = (n : Rat) from Rat.mkRat_self (n : Rat)] at this
  exact Ev.bind (ref02_Of_ev h) (Ev.bind (this.rnorm (by omega)) Ev.pure)

/-! ### Norms -/
theorem norms_p15 : Ev (fun k => law03_RatioNorms.p15 k ()) true := by
  refine Ev.turn (fun k => law03_RatioNorms.p15_succ k _) ?_
  unfold law03_RatioNorms.e15
  exact Ev.bind half_ev Ev.pure

theorem LQ_int (n : Int) : LQ (n : Rat) = LZ n + 1 := by unfold LQ; rw [Rat.num_intCast, Rat.den_intCast, L_one]

theorem norms_ev {M : Nat} {r : RR} {q : Rat} {d : Bool × List Int} {z n : Int} (hr : Rt M r q) (hd : Zt M d z) (h1 : 1 ≤ M) (hM : M ≤ 274877906943) (hn : -9223372036854775808 ≤ n ∧ n ≤ 9223372036854775807) : Ev (fun k => law03_RatioNorms.f k r d n) true := by
  unfold law03_RatioNorms.f law03_RatioNorms.e
  have lq := hr.LQ h1
  have ln : LQ (n : Rat) ≤ 3 := by
    rw [LQ_int]
    have : LZ n ≤ 2 := L_le (by omega)
    omega
  refine Ev.bind (hr.twin (by omega)) (Ev.bind (hr.norm (by omega)) (Ev.bind (hr.rnorm (by omega)) (Ev.bind (same_rat lq (by omega)) (Ev.fls rfl ?_))))
  refine Ev.bind (whole_Whole_ev hn) (Ev.bind (ref03_Whole_ev hn) (Ev.bind (same_rat ln (by omega)) (Ev.fls rfl ?_)))
  refine Ev.bind (hr.twin (by omega)) (Ev.bind (hr.sign h1 (by omega)) (Ev.bind (hr.rsign h1 (by omega)) (Ev.fls (by simp) ?_)))
  refine Ev.bind (hr.zt.twin (by omega)) (Ev.bind (hd.twin (by omega)) ?_)
  by_cases h0 : z = 0
  · subst h0
    refine Ev.bind (hr.zt.of_zero hd (by omega)) (Ev.bind (hr.zt.rof_zero hd (by omega)) ?_)
    exact Ev.fls (by simp) (Ev.fls (by simp) (Ev.tru (by simp) (Ev.bind none_noRat (Ev.fls rfl norms_p15))))
  · refine Ev.bind (hr.zt.of_ev hd (by omega) h0) (Ev.bind (hr.zt.rof_ev hd (by omega) h0) ?_)
    refine Ev.fls (by simp) (Ev.tru (by simp) (Ev.bind (same_rat (M := 4 * M) ?_ (by omega)) (Ev.fls rfl (Ev.fls (by simp) norms_p15))))
    have a1 := hr.zt.LZ
    have a2 := hd.LZ
    have hc := divInt_cases (Zv r.1) z
    have a3 : max (L z.natAbs) 1 ≤ M := Nat.max_le.2 ⟨a2, h1⟩
    by_cases h : z < 0
    · rw [hc.1 h]
      refine Nat.le_trans (LQ_mkRat _ _) ?_
      rw [LZ_neg]; omega
    · rw [hc.2 (by omega)]
      refine Nat.le_trans (LQ_mkRat _ _) ?_
      omega

theorem norms_math (x : TD [tyRat, tyInt, .int .i64]) (hw : wfDs (encT [tyRat, tyInt, .int .i64] x)) (hm : massDs (encT [tyRat, tyInt, .int .i64] x) ≤ 1048576) : ∃ k, law03_RatioNorms.f k x.1 x.2.1 x.2.2 = some true := by
  obtain ⟨h1, h2, h3, _⟩ := hw
  have hm' : tyRat.mass x.1 + (tyInt.mass x.2.1 + (1 + 0)) ≤ 1048576 := hm
  have h3' : IntKind.i64.min ≤ x.2.2 ∧ x.2.2 ≤ IntKind.i64.max := h3
  have e1 : IntKind.i64.min = -9223372036854775808 := by decide
  have e2 : IntKind.i64.max = 9223372036854775807 := by decide
  rw [e1, e2] at h3'
  exact (norms_ev (rat_rt (r := x.1) h1 (M := 1048576) (by omega)) (int_zt (a := x.2.1) h2 (M := 1048576) (by omega)) (by omega) (by omega) h3').some

end Go.FK
